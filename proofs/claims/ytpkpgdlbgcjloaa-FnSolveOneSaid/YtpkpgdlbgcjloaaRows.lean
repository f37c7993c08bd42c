/-
  No cell of these rows narrows 'for every input' (looked for: loops, veiled, ifaces, maps, wideKeys, modest, calm, conditions, laid).
  DERIVED. THE GIVEN ROWS OF THIS SEAT. 10 by the template 'for every input the law returns true; each argument reads behind the call as it read before'; 0 by the template 'total and deterministic' (their statements: YtpkpgdlbgcjloaaTotals.lean).
  GIVEN WITH THE SEED: the statements are not yours to turn. If you find one false, say at which input.
  Laid BY PROGRAM, IN A SANDBOX (cutbox-rows.mjs): the forced cells as the released guide's own fill.sh prints them over the translation bfe10e3dceb06d2c… (all of the seat's roots in one cut). By AI agents, Wed Nov 11 2026. No macro, syntax, notation, axiom, sorry.
-/
import Derived.Test.YtpkpgdlbgcjloaaChecked
import GoSem.Claim
import GoSem.ClaimJoined
import GoSem.ClaimMapViews
import Derived.JoinedTies
import Derived.KernelRfl
namespace Go.Proofs.Ytpkpgdlbgcjloaa
/- THE CELL 'sum', in the pinned program and in every row, IS THE sha256 OF THE DUMP (.gsa) THAT YtpkpgdlbgcjloaaProg.lean LOADS. Nothing in Lean hashes anything: it is a label: what it is worth is what the hold of that sum in a sandbox is worth. -/
noncomputable def Try.pinned : Pinned := { name := "ytpkpgdlbgcjloaa", sum := "bfe10e3dceb06d2c83ac74938ecae530621879a7f94b34a84f6e7f76887a818b", checked := Try.checked }
namespace Rows
def none {H : Type} : Left H := { results := [], args := [] }

/-- 'laws.FnSolveHas': WHATEVER THE INPUT: true; the input reads as it did. -/
def fnSolveHasSpec : ChangeSpec := { name := "fnSolveHas", fn := fun _ => fun
  | [d] => { results := [.lit (.bool true)], args := [d] }
  | _ => none }
def fnSolveHasRow : OpenClaim := { program := "ytpkpgdlbgcjloaa", sum := "bfe10e3dceb06d2c83ac74938ecae530621879a7f94b34a84f6e7f76887a818b", func := "loop.example/oneletter/laws.FnSolveHas", spec := "fnSolveHas", inPlace := ["internal/bytealg.IndexByteString", "internal/bytealg.IndexString", "internal/abi.NoEscape"], unfollowed := true, recurses := true, named := ["internal/bytealg.MaxLen"], apart := false }
def FnSolveHasSaid : Prop := fnSolveHasRow.holds Try.pinned (OpenSpec.ofChange fnSolveHasSpec)

/-- ITS FALSE NEIGHBOUR: 'it returns false'. Refute it at one input. -/
def fnSolveHasWrong : ChangeSpec := { name := "fnSolveHas", fn := fun _ => fun
  | [d] => { results := [.lit (.bool false)], args := [d] }
  | _ => none }
def FnSolveHasWrongFalsely : Prop := fnSolveHasRow.holds Try.pinned (OpenSpec.ofChange fnSolveHasWrong)

/-- 'laws.FnExactSolveLeast': WHATEVER THE INPUT: true; the input reads as it did. -/
def fnExactSolveLeastSpec : ChangeSpec := { name := "fnExactSolveLeast", fn := fun _ => fun
  | [d1, d2] => { results := [.lit (.bool true)], args := [d1, d2] }
  | _ => none }
def fnExactSolveLeastRow : OpenClaim := { program := "ytpkpgdlbgcjloaa", sum := "bfe10e3dceb06d2c83ac74938ecae530621879a7f94b34a84f6e7f76887a818b", func := "loop.example/oneletter/laws.FnExactSolveLeast", spec := "fnExactSolveLeast", inPlace := ["internal/bytealg.IndexByteString", "internal/bytealg.IndexString", "internal/abi.NoEscape"], unfollowed := true, recurses := true, named := ["internal/bytealg.MaxLen"], apart := false }
def FnExactSolveLeastSaid : Prop := fnExactSolveLeastRow.holds Try.pinned (OpenSpec.ofChange fnExactSolveLeastSpec)

/-- ITS FALSE NEIGHBOUR: 'it returns false'. Refute it at one input. -/
def fnExactSolveLeastWrong : ChangeSpec := { name := "fnExactSolveLeast", fn := fun _ => fun
  | [d1, d2] => { results := [.lit (.bool false)], args := [d1, d2] }
  | _ => none }
def FnExactSolveLeastWrongFalsely : Prop := fnExactSolveLeastRow.holds Try.pinned (OpenSpec.ofChange fnExactSolveLeastWrong)

/-- 'laws.FnSolveIs': WHATEVER THE INPUT: true; the input reads as it did. -/
def fnSolveIsSpec : ChangeSpec := { name := "fnSolveIs", fn := fun _ => fun
  | [d] => { results := [.lit (.bool true)], args := [d] }
  | _ => none }
def fnSolveIsRow : OpenClaim := { program := "ytpkpgdlbgcjloaa", sum := "bfe10e3dceb06d2c83ac74938ecae530621879a7f94b34a84f6e7f76887a818b", func := "loop.example/oneletter/laws.FnSolveIs", spec := "fnSolveIs", inPlace := ["internal/bytealg.IndexByteString", "internal/bytealg.IndexString", "internal/abi.NoEscape"], unfollowed := true, recurses := true, named := ["internal/bytealg.MaxLen"], apart := false }
def FnSolveIsSaid : Prop := fnSolveIsRow.holds Try.pinned (OpenSpec.ofChange fnSolveIsSpec)

/-- ITS FALSE NEIGHBOUR: 'it returns false'. Refute it at one input. -/
def fnSolveIsWrong : ChangeSpec := { name := "fnSolveIs", fn := fun _ => fun
  | [d] => { results := [.lit (.bool false)], args := [d] }
  | _ => none }
def FnSolveIsWrongFalsely : Prop := fnSolveIsRow.holds Try.pinned (OpenSpec.ofChange fnSolveIsWrong)

/-- 'laws.FnSolveOne': WHATEVER THE INPUT: true; the input reads as it did. -/
def fnSolveOneSpec : ChangeSpec := { name := "fnSolveOne", fn := fun _ => fun
  | [d] => { results := [.lit (.bool true)], args := [d] }
  | _ => none }
def fnSolveOneRow : OpenClaim := { program := "ytpkpgdlbgcjloaa", sum := "bfe10e3dceb06d2c83ac74938ecae530621879a7f94b34a84f6e7f76887a818b", func := "loop.example/oneletter/laws.FnSolveOne", spec := "fnSolveOne", inPlace := ["internal/bytealg.IndexByteString", "internal/bytealg.IndexString", "internal/abi.NoEscape"], unfollowed := true, recurses := true, named := ["internal/bytealg.MaxLen"], apart := false }
def FnSolveOneSaid : Prop := fnSolveOneRow.holds Try.pinned (OpenSpec.ofChange fnSolveOneSpec)

/-- ITS FALSE NEIGHBOUR: 'it returns false'. Refute it at one input. -/
def fnSolveOneWrong : ChangeSpec := { name := "fnSolveOne", fn := fun _ => fun
  | [d] => { results := [.lit (.bool false)], args := [d] }
  | _ => none }
def FnSolveOneWrongFalsely : Prop := fnSolveOneRow.holds Try.pinned (OpenSpec.ofChange fnSolveOneWrong)

/-- 'laws.FnStarPlus': WHATEVER THE INPUT: true; the input reads as it did. -/
def fnStarPlusSpec : ChangeSpec := { name := "fnStarPlus", fn := fun _ => fun
  | [d] => { results := [.lit (.bool true)], args := [d] }
  | _ => none }
def fnStarPlusRow : OpenClaim := { program := "ytpkpgdlbgcjloaa", sum := "bfe10e3dceb06d2c83ac74938ecae530621879a7f94b34a84f6e7f76887a818b", func := "loop.example/oneletter/laws.FnStarPlus", spec := "fnStarPlus", inPlace := ["internal/bytealg.IndexByteString", "internal/bytealg.IndexString", "internal/abi.NoEscape"], unfollowed := true, recurses := true, named := ["internal/bytealg.MaxLen"], apart := false }
def FnStarPlusSaid : Prop := fnStarPlusRow.holds Try.pinned (OpenSpec.ofChange fnStarPlusSpec)

/-- ITS FALSE NEIGHBOUR: 'it returns false'. Refute it at one input. -/
def fnStarPlusWrong : ChangeSpec := { name := "fnStarPlus", fn := fun _ => fun
  | [d] => { results := [.lit (.bool false)], args := [d] }
  | _ => none }
def FnStarPlusWrongFalsely : Prop := fnStarPlusRow.holds Try.pinned (OpenSpec.ofChange fnStarPlusWrong)

/-- 'laws.FnSumTimes': WHATEVER THE INPUT: true; the input reads as it did. -/
def fnSumTimesSpec : ChangeSpec := { name := "fnSumTimes", fn := fun _ => fun
  | [d] => { results := [.lit (.bool true)], args := [d] }
  | _ => none }
def fnSumTimesRow : OpenClaim := { program := "ytpkpgdlbgcjloaa", sum := "bfe10e3dceb06d2c83ac74938ecae530621879a7f94b34a84f6e7f76887a818b", func := "loop.example/oneletter/laws.FnSumTimes", spec := "fnSumTimes", inPlace := ["internal/bytealg.IndexByteString", "internal/bytealg.IndexString", "internal/abi.NoEscape"], unfollowed := true, recurses := true, named := ["internal/bytealg.MaxLen"], apart := false }
def FnSumTimesSaid : Prop := fnSumTimesRow.holds Try.pinned (OpenSpec.ofChange fnSumTimesSpec)

/-- ITS FALSE NEIGHBOUR: 'it returns false'. Refute it at one input. -/
def fnSumTimesWrong : ChangeSpec := { name := "fnSumTimes", fn := fun _ => fun
  | [d] => { results := [.lit (.bool false)], args := [d] }
  | _ => none }
def FnSumTimesWrongFalsely : Prop := fnSumTimesRow.holds Try.pinned (OpenSpec.ofChange fnSumTimesWrong)

/-- 'laws.FnExactSolveMost': WHATEVER THE INPUT: true; the input reads as it did. -/
def fnExactSolveMostSpec : ChangeSpec := { name := "fnExactSolveMost", fn := fun _ => fun
  | [d1, d2] => { results := [.lit (.bool true)], args := [d1, d2] }
  | _ => none }
def fnExactSolveMostRow : OpenClaim := { program := "ytpkpgdlbgcjloaa", sum := "bfe10e3dceb06d2c83ac74938ecae530621879a7f94b34a84f6e7f76887a818b", func := "loop.example/oneletter/laws.FnExactSolveMost", spec := "fnExactSolveMost", inPlace := ["internal/bytealg.IndexByteString", "internal/bytealg.IndexString", "internal/abi.NoEscape"], unfollowed := true, recurses := true, named := ["internal/bytealg.MaxLen"], apart := false }
def FnExactSolveMostSaid : Prop := fnExactSolveMostRow.holds Try.pinned (OpenSpec.ofChange fnExactSolveMostSpec)

/-- ITS FALSE NEIGHBOUR: 'it returns false'. Refute it at one input. -/
def fnExactSolveMostWrong : ChangeSpec := { name := "fnExactSolveMost", fn := fun _ => fun
  | [d1, d2] => { results := [.lit (.bool false)], args := [d1, d2] }
  | _ => none }
def FnExactSolveMostWrongFalsely : Prop := fnExactSolveMostRow.holds Try.pinned (OpenSpec.ofChange fnExactSolveMostWrong)

/-- 'laws.FnMachOf': WHATEVER THE INPUT: true; the input reads as it did. -/
def fnMachOfSpec : ChangeSpec := { name := "fnMachOf", fn := fun _ => fun
  | [d] => { results := [.lit (.bool true)], args := [d] }
  | _ => none }
def fnMachOfRow : OpenClaim := { program := "ytpkpgdlbgcjloaa", sum := "bfe10e3dceb06d2c83ac74938ecae530621879a7f94b34a84f6e7f76887a818b", func := "loop.example/oneletter/laws.FnMachOf", spec := "fnMachOf", inPlace := ["internal/bytealg.IndexByteString", "internal/bytealg.IndexString", "internal/abi.NoEscape"], unfollowed := true, recurses := true, named := ["internal/bytealg.MaxLen"], apart := false }
def FnMachOfSaid : Prop := fnMachOfRow.holds Try.pinned (OpenSpec.ofChange fnMachOfSpec)

/-- ITS FALSE NEIGHBOUR: 'it returns false'. Refute it at one input. -/
def fnMachOfWrong : ChangeSpec := { name := "fnMachOf", fn := fun _ => fun
  | [d] => { results := [.lit (.bool false)], args := [d] }
  | _ => none }
def FnMachOfWrongFalsely : Prop := fnMachOfRow.holds Try.pinned (OpenSpec.ofChange fnMachOfWrong)

/-- 'laws.FnSolveMost': WHATEVER THE INPUT: true; the input reads as it did. -/
def fnSolveMostSpec : ChangeSpec := { name := "fnSolveMost", fn := fun _ => fun
  | [d] => { results := [.lit (.bool true)], args := [d] }
  | _ => none }
def fnSolveMostRow : OpenClaim := { program := "ytpkpgdlbgcjloaa", sum := "bfe10e3dceb06d2c83ac74938ecae530621879a7f94b34a84f6e7f76887a818b", func := "loop.example/oneletter/laws.FnSolveMost", spec := "fnSolveMost", inPlace := ["internal/bytealg.IndexByteString", "internal/bytealg.IndexString", "internal/abi.NoEscape"], unfollowed := true, recurses := true, named := ["internal/bytealg.MaxLen"], apart := false }
def FnSolveMostSaid : Prop := fnSolveMostRow.holds Try.pinned (OpenSpec.ofChange fnSolveMostSpec)

/-- ITS FALSE NEIGHBOUR: 'it returns false'. Refute it at one input. -/
def fnSolveMostWrong : ChangeSpec := { name := "fnSolveMost", fn := fun _ => fun
  | [d] => { results := [.lit (.bool false)], args := [d] }
  | _ => none }
def FnSolveMostWrongFalsely : Prop := fnSolveMostRow.holds Try.pinned (OpenSpec.ofChange fnSolveMostWrong)

/-- 'laws.FnSolveLeast': WHATEVER THE INPUT: true; the input reads as it did. -/
def fnSolveLeastSpec : ChangeSpec := { name := "fnSolveLeast", fn := fun _ => fun
  | [d] => { results := [.lit (.bool true)], args := [d] }
  | _ => none }
def fnSolveLeastRow : OpenClaim := { program := "ytpkpgdlbgcjloaa", sum := "bfe10e3dceb06d2c83ac74938ecae530621879a7f94b34a84f6e7f76887a818b", func := "loop.example/oneletter/laws.FnSolveLeast", spec := "fnSolveLeast", inPlace := ["internal/bytealg.IndexByteString", "internal/bytealg.IndexString", "internal/abi.NoEscape"], unfollowed := true, recurses := true, named := ["internal/bytealg.MaxLen"], apart := false }
def FnSolveLeastSaid : Prop := fnSolveLeastRow.holds Try.pinned (OpenSpec.ofChange fnSolveLeastSpec)

/-- ITS FALSE NEIGHBOUR: 'it returns false'. Refute it at one input. -/
def fnSolveLeastWrong : ChangeSpec := { name := "fnSolveLeast", fn := fun _ => fun
  | [d] => { results := [.lit (.bool false)], args := [d] }
  | _ => none }
def FnSolveLeastWrongFalsely : Prop := fnSolveLeastRow.holds Try.pinned (OpenSpec.ofChange fnSolveLeastWrong)

/- THE SECOND FORM. 'bulk': how many values and letters a reading holds, each counted each time it is reached (what is shared counts as often as it is met; a slice's spare places count too). A statement '..UptoSaid' is the law's where the arguments, and the package variables that the reading takes, are together of bulk at most 1048576: NARROWER than '..Said'. Prove '..Said' where nothing that the law and all that it calls make is longer than what came in: it says more and counts as full. Else prove '..UptoSaid'. A law counts once. -/
mutual
def uptoBulk {H : Type} : DataW H → Nat
  | .lit (.string bytes) => bytes.length + 1
  | .lit _ => 1
  | .nil => 1
  | .ptr d => uptoBulk d + 1
  | .slice elems spare => uptoBulkAll elems + uptoBulkAll spare + 1
  | .agg parts => uptoBulkAll parts + 1
  | .iface _ d => uptoBulk d + 1
  | .map entries => uptoBulkEntries entries + 1
  | .held _ => 1
def uptoBulkAll {H : Type} : List (DataW H) → Nat
  | [] => 0
  | d :: r => uptoBulk d + uptoBulkAll r
def uptoBulkEntries {H : Type} : List (Lit × DataW H) → Nat
  | [] => 0
  | x :: r => uptoBulkEntry x + uptoBulkEntries r
def uptoBulkEntry {H : Type} : Lit × DataW H → Nat
  | (.string bytes, d) => bytes.length + uptoBulk d + 1
  | (_, d) => uptoBulk d + 1
 end
def uptoSmall : (H : Type) → List (DataW H) → Bool := fun _ ds => decide (uptoBulkAll ds ≤ 1048576)
def OpenSpec.upto (s : _root_.Go.ChangeSpec) : _root_.Go.OpenSpec := { _root_.Go.OpenSpec.ofChange s with cond := some uptoSmall }

/-- 'laws.FnSolveHas', WHERE WHAT IT READS IS OF BULK AT MOST 1048576: true; the input reads as it did. -/
def fnSolveHasUptoRow : OpenClaim := { program := "ytpkpgdlbgcjloaa", sum := "bfe10e3dceb06d2c83ac74938ecae530621879a7f94b34a84f6e7f76887a818b", func := "loop.example/oneletter/laws.FnSolveHas", spec := "fnSolveHas", inPlace := ["internal/bytealg.IndexByteString", "internal/bytealg.IndexString", "internal/abi.NoEscape"], unfollowed := true, recurses := true, named := ["internal/bytealg.MaxLen"], apart := false, narrowed := true }
def FnSolveHasUptoSaid : Prop := fnSolveHasUptoRow.holds Try.pinned (OpenSpec.upto fnSolveHasSpec)

/-- 'laws.FnExactSolveLeast', WHERE WHAT IT READS IS OF BULK AT MOST 1048576: true; the input reads as it did. -/
def fnExactSolveLeastUptoRow : OpenClaim := { program := "ytpkpgdlbgcjloaa", sum := "bfe10e3dceb06d2c83ac74938ecae530621879a7f94b34a84f6e7f76887a818b", func := "loop.example/oneletter/laws.FnExactSolveLeast", spec := "fnExactSolveLeast", inPlace := ["internal/bytealg.IndexByteString", "internal/bytealg.IndexString", "internal/abi.NoEscape"], unfollowed := true, recurses := true, named := ["internal/bytealg.MaxLen"], apart := false, narrowed := true }
def FnExactSolveLeastUptoSaid : Prop := fnExactSolveLeastUptoRow.holds Try.pinned (OpenSpec.upto fnExactSolveLeastSpec)

/-- 'laws.FnSolveIs', WHERE WHAT IT READS IS OF BULK AT MOST 1048576: true; the input reads as it did. -/
def fnSolveIsUptoRow : OpenClaim := { program := "ytpkpgdlbgcjloaa", sum := "bfe10e3dceb06d2c83ac74938ecae530621879a7f94b34a84f6e7f76887a818b", func := "loop.example/oneletter/laws.FnSolveIs", spec := "fnSolveIs", inPlace := ["internal/bytealg.IndexByteString", "internal/bytealg.IndexString", "internal/abi.NoEscape"], unfollowed := true, recurses := true, named := ["internal/bytealg.MaxLen"], apart := false, narrowed := true }
def FnSolveIsUptoSaid : Prop := fnSolveIsUptoRow.holds Try.pinned (OpenSpec.upto fnSolveIsSpec)

/-- 'laws.FnSolveOne', WHERE WHAT IT READS IS OF BULK AT MOST 1048576: true; the input reads as it did. -/
def fnSolveOneUptoRow : OpenClaim := { program := "ytpkpgdlbgcjloaa", sum := "bfe10e3dceb06d2c83ac74938ecae530621879a7f94b34a84f6e7f76887a818b", func := "loop.example/oneletter/laws.FnSolveOne", spec := "fnSolveOne", inPlace := ["internal/bytealg.IndexByteString", "internal/bytealg.IndexString", "internal/abi.NoEscape"], unfollowed := true, recurses := true, named := ["internal/bytealg.MaxLen"], apart := false, narrowed := true }
def FnSolveOneUptoSaid : Prop := fnSolveOneUptoRow.holds Try.pinned (OpenSpec.upto fnSolveOneSpec)

/-- 'laws.FnStarPlus', WHERE WHAT IT READS IS OF BULK AT MOST 1048576: true; the input reads as it did. -/
def fnStarPlusUptoRow : OpenClaim := { program := "ytpkpgdlbgcjloaa", sum := "bfe10e3dceb06d2c83ac74938ecae530621879a7f94b34a84f6e7f76887a818b", func := "loop.example/oneletter/laws.FnStarPlus", spec := "fnStarPlus", inPlace := ["internal/bytealg.IndexByteString", "internal/bytealg.IndexString", "internal/abi.NoEscape"], unfollowed := true, recurses := true, named := ["internal/bytealg.MaxLen"], apart := false, narrowed := true }
def FnStarPlusUptoSaid : Prop := fnStarPlusUptoRow.holds Try.pinned (OpenSpec.upto fnStarPlusSpec)

/-- 'laws.FnSumTimes', WHERE WHAT IT READS IS OF BULK AT MOST 1048576: true; the input reads as it did. -/
def fnSumTimesUptoRow : OpenClaim := { program := "ytpkpgdlbgcjloaa", sum := "bfe10e3dceb06d2c83ac74938ecae530621879a7f94b34a84f6e7f76887a818b", func := "loop.example/oneletter/laws.FnSumTimes", spec := "fnSumTimes", inPlace := ["internal/bytealg.IndexByteString", "internal/bytealg.IndexString", "internal/abi.NoEscape"], unfollowed := true, recurses := true, named := ["internal/bytealg.MaxLen"], apart := false, narrowed := true }
def FnSumTimesUptoSaid : Prop := fnSumTimesUptoRow.holds Try.pinned (OpenSpec.upto fnSumTimesSpec)

/-- 'laws.FnExactSolveMost', WHERE WHAT IT READS IS OF BULK AT MOST 1048576: true; the input reads as it did. -/
def fnExactSolveMostUptoRow : OpenClaim := { program := "ytpkpgdlbgcjloaa", sum := "bfe10e3dceb06d2c83ac74938ecae530621879a7f94b34a84f6e7f76887a818b", func := "loop.example/oneletter/laws.FnExactSolveMost", spec := "fnExactSolveMost", inPlace := ["internal/bytealg.IndexByteString", "internal/bytealg.IndexString", "internal/abi.NoEscape"], unfollowed := true, recurses := true, named := ["internal/bytealg.MaxLen"], apart := false, narrowed := true }
def FnExactSolveMostUptoSaid : Prop := fnExactSolveMostUptoRow.holds Try.pinned (OpenSpec.upto fnExactSolveMostSpec)

/-- 'laws.FnMachOf', WHERE WHAT IT READS IS OF BULK AT MOST 1048576: true; the input reads as it did. -/
def fnMachOfUptoRow : OpenClaim := { program := "ytpkpgdlbgcjloaa", sum := "bfe10e3dceb06d2c83ac74938ecae530621879a7f94b34a84f6e7f76887a818b", func := "loop.example/oneletter/laws.FnMachOf", spec := "fnMachOf", inPlace := ["internal/bytealg.IndexByteString", "internal/bytealg.IndexString", "internal/abi.NoEscape"], unfollowed := true, recurses := true, named := ["internal/bytealg.MaxLen"], apart := false, narrowed := true }
def FnMachOfUptoSaid : Prop := fnMachOfUptoRow.holds Try.pinned (OpenSpec.upto fnMachOfSpec)

/-- 'laws.FnSolveMost', WHERE WHAT IT READS IS OF BULK AT MOST 1048576: true; the input reads as it did. -/
def fnSolveMostUptoRow : OpenClaim := { program := "ytpkpgdlbgcjloaa", sum := "bfe10e3dceb06d2c83ac74938ecae530621879a7f94b34a84f6e7f76887a818b", func := "loop.example/oneletter/laws.FnSolveMost", spec := "fnSolveMost", inPlace := ["internal/bytealg.IndexByteString", "internal/bytealg.IndexString", "internal/abi.NoEscape"], unfollowed := true, recurses := true, named := ["internal/bytealg.MaxLen"], apart := false, narrowed := true }
def FnSolveMostUptoSaid : Prop := fnSolveMostUptoRow.holds Try.pinned (OpenSpec.upto fnSolveMostSpec)

/-- 'laws.FnSolveLeast', WHERE WHAT IT READS IS OF BULK AT MOST 1048576: true; the input reads as it did. -/
def fnSolveLeastUptoRow : OpenClaim := { program := "ytpkpgdlbgcjloaa", sum := "bfe10e3dceb06d2c83ac74938ecae530621879a7f94b34a84f6e7f76887a818b", func := "loop.example/oneletter/laws.FnSolveLeast", spec := "fnSolveLeast", inPlace := ["internal/bytealg.IndexByteString", "internal/bytealg.IndexString", "internal/abi.NoEscape"], unfollowed := true, recurses := true, named := ["internal/bytealg.MaxLen"], apart := false, narrowed := true }
def FnSolveLeastUptoSaid : Prop := fnSolveLeastUptoRow.holds Try.pinned (OpenSpec.upto fnSolveLeastSpec)

end Rows
end Go.Proofs.Ytpkpgdlbgcjloaa
