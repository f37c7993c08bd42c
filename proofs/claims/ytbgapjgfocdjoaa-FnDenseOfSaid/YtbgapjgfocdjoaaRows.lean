/-
  No cell of these rows narrows 'for every input' (looked for: loops, veiled, ifaces, maps, wideKeys, modest, calm, conditions, laid).
  DERIVED. THE GIVEN ROWS OF THIS SEAT. 10 by the template 'for every input the law returns true; each argument reads behind the call as it read before'; 0 by the template 'total and deterministic' (their statements: YtbgapjgfocdjoaaTotals.lean).
  GIVEN WITH THE SEED: the statements are not yours to turn. If you find one false, say at which input.
  Laid BY PROGRAM, IN A SANDBOX (cutbox-rows.mjs): the forced cells as the released guide's own fill.sh prints them over the translation 187256aa720b5aa7… (all of the seat's roots in one cut). By AI agents, Wed Nov 11 2026. No macro, syntax, notation, axiom, sorry.
-/
import Derived.Test.YtbgapjgfocdjoaaChecked
import GoSem.Claim
import GoSem.ClaimJoined
import GoSem.ClaimMapViews
import Derived.JoinedTies
import Derived.KernelRfl
namespace Go.Proofs.Ytbgapjgfocdjoaa
/- THE CELL 'sum', in the pinned program and in every row, IS THE sha256 OF THE DUMP (.gsa) THAT YtbgapjgfocdjoaaProg.lean LOADS. Nothing in Lean hashes anything: it is a label: what it is worth is what the hold of that sum in a sandbox is worth. -/
noncomputable def Try.pinned : Pinned := { name := "ytbgapjgfocdjoaa", sum := "187256aa720b5aa72907d96c73888b67c7c0e91dc49b887ebefa4f0c043ff84c", checked := Try.checked }
namespace Rows
def none {H : Type} : Left H := { results := [], args := [] }

/-- 'laws.FnExactDenseCount': WHATEVER THE INPUT: true; the input reads as it did. -/
def fnExactDenseCountSpec : ChangeSpec := { name := "fnExactDenseCount", fn := fun _ => fun
  | [d1, d2, d3] => { results := [.lit (.bool true)], args := [d1, d2, d3] }
  | _ => none }
def fnExactDenseCountRow : OpenClaim := { program := "ytbgapjgfocdjoaa", sum := "187256aa720b5aa72907d96c73888b67c7c0e91dc49b887ebefa4f0c043ff84c", func := "loop.example/oneletter/laws.FnExactDenseCount", spec := "fnExactDenseCount", inPlace := ["internal/bytealg.IndexByteString", "internal/bytealg.IndexString"], named := ["internal/bytealg.MaxLen"], apart := false }
def FnExactDenseCountSaid : Prop := fnExactDenseCountRow.holds Try.pinned (OpenSpec.ofChange fnExactDenseCountSpec)

/-- ITS FALSE NEIGHBOUR: 'it returns false'. Refute it at one input. -/
def fnExactDenseCountWrong : ChangeSpec := { name := "fnExactDenseCount", fn := fun _ => fun
  | [d1, d2, d3] => { results := [.lit (.bool false)], args := [d1, d2, d3] }
  | _ => none }
def FnExactDenseCountWrongFalsely : Prop := fnExactDenseCountRow.holds Try.pinned (OpenSpec.ofChange fnExactDenseCountWrong)

/-- 'laws.FnExactDenseGap': WHATEVER THE INPUT: true; the input reads as it did. -/
def fnExactDenseGapSpec : ChangeSpec := { name := "fnExactDenseGap", fn := fun _ => fun
  | [d] => { results := [.lit (.bool true)], args := [d] }
  | _ => none }
def fnExactDenseGapRow : OpenClaim := { program := "ytbgapjgfocdjoaa", sum := "187256aa720b5aa72907d96c73888b67c7c0e91dc49b887ebefa4f0c043ff84c", func := "loop.example/oneletter/laws.FnExactDenseGap", spec := "fnExactDenseGap", inPlace := ["internal/bytealg.IndexByteString", "internal/bytealg.IndexString"], named := ["internal/bytealg.MaxLen"], apart := false }
def FnExactDenseGapSaid : Prop := fnExactDenseGapRow.holds Try.pinned (OpenSpec.ofChange fnExactDenseGapSpec)

/-- ITS FALSE NEIGHBOUR: 'it returns false'. Refute it at one input. -/
def fnExactDenseGapWrong : ChangeSpec := { name := "fnExactDenseGap", fn := fun _ => fun
  | [d] => { results := [.lit (.bool false)], args := [d] }
  | _ => none }
def FnExactDenseGapWrongFalsely : Prop := fnExactDenseGapRow.holds Try.pinned (OpenSpec.ofChange fnExactDenseGapWrong)

/-- 'laws.FnExactDenseRun': WHATEVER THE INPUT: true; the input reads as it did. -/
def fnExactDenseRunSpec : ChangeSpec := { name := "fnExactDenseRun", fn := fun _ => fun
  | [d] => { results := [.lit (.bool true)], args := [d] }
  | _ => none }
def fnExactDenseRunRow : OpenClaim := { program := "ytbgapjgfocdjoaa", sum := "187256aa720b5aa72907d96c73888b67c7c0e91dc49b887ebefa4f0c043ff84c", func := "loop.example/oneletter/laws.FnExactDenseRun", spec := "fnExactDenseRun", inPlace := ["internal/bytealg.IndexByteString", "internal/bytealg.IndexString"], named := ["internal/bytealg.MaxLen"], apart := false }
def FnExactDenseRunSaid : Prop := fnExactDenseRunRow.holds Try.pinned (OpenSpec.ofChange fnExactDenseRunSpec)

/-- ITS FALSE NEIGHBOUR: 'it returns false'. Refute it at one input. -/
def fnExactDenseRunWrong : ChangeSpec := { name := "fnExactDenseRun", fn := fun _ => fun
  | [d] => { results := [.lit (.bool false)], args := [d] }
  | _ => none }
def FnExactDenseRunWrongFalsely : Prop := fnExactDenseRunRow.holds Try.pinned (OpenSpec.ofChange fnExactDenseRunWrong)

/-- 'laws.FnExactDenseLess': WHATEVER THE INPUT: true; the input reads as it did. -/
def fnExactDenseLessSpec : ChangeSpec := { name := "fnExactDenseLess", fn := fun _ => fun
  | [d1, d2] => { results := [.lit (.bool true)], args := [d1, d2] }
  | _ => none }
def fnExactDenseLessRow : OpenClaim := { program := "ytbgapjgfocdjoaa", sum := "187256aa720b5aa72907d96c73888b67c7c0e91dc49b887ebefa4f0c043ff84c", func := "loop.example/oneletter/laws.FnExactDenseLess", spec := "fnExactDenseLess", inPlace := ["internal/bytealg.IndexByteString", "internal/bytealg.IndexString"], named := ["internal/bytealg.MaxLen"], apart := false }
def FnExactDenseLessSaid : Prop := fnExactDenseLessRow.holds Try.pinned (OpenSpec.ofChange fnExactDenseLessSpec)

/-- ITS FALSE NEIGHBOUR: 'it returns false'. Refute it at one input. -/
def fnExactDenseLessWrong : ChangeSpec := { name := "fnExactDenseLess", fn := fun _ => fun
  | [d1, d2] => { results := [.lit (.bool false)], args := [d1, d2] }
  | _ => none }
def FnExactDenseLessWrongFalsely : Prop := fnExactDenseLessRow.holds Try.pinned (OpenSpec.ofChange fnExactDenseLessWrong)

/-- 'laws.FnExactDenseOf': WHATEVER THE INPUT: true; the input reads as it did. -/
def fnExactDenseOfSpec : ChangeSpec := { name := "fnExactDenseOf", fn := fun _ => fun
  | [d] => { results := [.lit (.bool true)], args := [d] }
  | _ => none }
def fnExactDenseOfRow : OpenClaim := { program := "ytbgapjgfocdjoaa", sum := "187256aa720b5aa72907d96c73888b67c7c0e91dc49b887ebefa4f0c043ff84c", func := "loop.example/oneletter/laws.FnExactDenseOf", spec := "fnExactDenseOf", inPlace := ["internal/bytealg.IndexByteString", "internal/bytealg.IndexString"], recurses := true, named := ["internal/bytealg.MaxLen"], apart := false }
def FnExactDenseOfSaid : Prop := fnExactDenseOfRow.holds Try.pinned (OpenSpec.ofChange fnExactDenseOfSpec)

/-- ITS FALSE NEIGHBOUR: 'it returns false'. Refute it at one input. -/
def fnExactDenseOfWrong : ChangeSpec := { name := "fnExactDenseOf", fn := fun _ => fun
  | [d] => { results := [.lit (.bool false)], args := [d] }
  | _ => none }
def FnExactDenseOfWrongFalsely : Prop := fnExactDenseOfRow.holds Try.pinned (OpenSpec.ofChange fnExactDenseOfWrong)

/-- 'laws.FnDenseGap': WHATEVER THE INPUT: true; the input reads as it did. -/
def fnDenseGapSpec : ChangeSpec := { name := "fnDenseGap", fn := fun _ => fun
  | [d] => { results := [.lit (.bool true)], args := [d] }
  | _ => none }
def fnDenseGapRow : OpenClaim := { program := "ytbgapjgfocdjoaa", sum := "187256aa720b5aa72907d96c73888b67c7c0e91dc49b887ebefa4f0c043ff84c", func := "loop.example/oneletter/laws.FnDenseGap", spec := "fnDenseGap", inPlace := ["internal/bytealg.IndexByteString", "internal/bytealg.IndexString"], named := ["internal/bytealg.MaxLen"], apart := false }
def FnDenseGapSaid : Prop := fnDenseGapRow.holds Try.pinned (OpenSpec.ofChange fnDenseGapSpec)

/-- ITS FALSE NEIGHBOUR: 'it returns false'. Refute it at one input. -/
def fnDenseGapWrong : ChangeSpec := { name := "fnDenseGap", fn := fun _ => fun
  | [d] => { results := [.lit (.bool false)], args := [d] }
  | _ => none }
def FnDenseGapWrongFalsely : Prop := fnDenseGapRow.holds Try.pinned (OpenSpec.ofChange fnDenseGapWrong)

/-- 'laws.FnDenseCount': WHATEVER THE INPUT: true; the input reads as it did. -/
def fnDenseCountSpec : ChangeSpec := { name := "fnDenseCount", fn := fun _ => fun
  | [d] => { results := [.lit (.bool true)], args := [d] }
  | _ => none }
def fnDenseCountRow : OpenClaim := { program := "ytbgapjgfocdjoaa", sum := "187256aa720b5aa72907d96c73888b67c7c0e91dc49b887ebefa4f0c043ff84c", func := "loop.example/oneletter/laws.FnDenseCount", spec := "fnDenseCount", inPlace := ["internal/bytealg.IndexByteString", "internal/bytealg.IndexString"], named := ["internal/bytealg.MaxLen"], apart := false }
def FnDenseCountSaid : Prop := fnDenseCountRow.holds Try.pinned (OpenSpec.ofChange fnDenseCountSpec)

/-- ITS FALSE NEIGHBOUR: 'it returns false'. Refute it at one input. -/
def fnDenseCountWrong : ChangeSpec := { name := "fnDenseCount", fn := fun _ => fun
  | [d] => { results := [.lit (.bool false)], args := [d] }
  | _ => none }
def FnDenseCountWrongFalsely : Prop := fnDenseCountRow.holds Try.pinned (OpenSpec.ofChange fnDenseCountWrong)

/-- 'laws.FnDenseRun': WHATEVER THE INPUT: true; the input reads as it did. -/
def fnDenseRunSpec : ChangeSpec := { name := "fnDenseRun", fn := fun _ => fun
  | [d] => { results := [.lit (.bool true)], args := [d] }
  | _ => none }
def fnDenseRunRow : OpenClaim := { program := "ytbgapjgfocdjoaa", sum := "187256aa720b5aa72907d96c73888b67c7c0e91dc49b887ebefa4f0c043ff84c", func := "loop.example/oneletter/laws.FnDenseRun", spec := "fnDenseRun", inPlace := ["internal/bytealg.IndexByteString", "internal/bytealg.IndexString"], named := ["internal/bytealg.MaxLen"], apart := false }
def FnDenseRunSaid : Prop := fnDenseRunRow.holds Try.pinned (OpenSpec.ofChange fnDenseRunSpec)

/-- ITS FALSE NEIGHBOUR: 'it returns false'. Refute it at one input. -/
def fnDenseRunWrong : ChangeSpec := { name := "fnDenseRun", fn := fun _ => fun
  | [d] => { results := [.lit (.bool false)], args := [d] }
  | _ => none }
def FnDenseRunWrongFalsely : Prop := fnDenseRunRow.holds Try.pinned (OpenSpec.ofChange fnDenseRunWrong)

/-- 'laws.FnDenseLess': WHATEVER THE INPUT: true; the input reads as it did. -/
def fnDenseLessSpec : ChangeSpec := { name := "fnDenseLess", fn := fun _ => fun
  | [d] => { results := [.lit (.bool true)], args := [d] }
  | _ => none }
def fnDenseLessRow : OpenClaim := { program := "ytbgapjgfocdjoaa", sum := "187256aa720b5aa72907d96c73888b67c7c0e91dc49b887ebefa4f0c043ff84c", func := "loop.example/oneletter/laws.FnDenseLess", spec := "fnDenseLess", inPlace := ["internal/bytealg.IndexByteString", "internal/bytealg.IndexString"], named := ["internal/bytealg.MaxLen"], apart := false }
def FnDenseLessSaid : Prop := fnDenseLessRow.holds Try.pinned (OpenSpec.ofChange fnDenseLessSpec)

/-- ITS FALSE NEIGHBOUR: 'it returns false'. Refute it at one input. -/
def fnDenseLessWrong : ChangeSpec := { name := "fnDenseLess", fn := fun _ => fun
  | [d] => { results := [.lit (.bool false)], args := [d] }
  | _ => none }
def FnDenseLessWrongFalsely : Prop := fnDenseLessRow.holds Try.pinned (OpenSpec.ofChange fnDenseLessWrong)

/-- 'laws.FnDenseOf': WHATEVER THE INPUT: true; the input reads as it did. -/
def fnDenseOfSpec : ChangeSpec := { name := "fnDenseOf", fn := fun _ => fun
  | [d] => { results := [.lit (.bool true)], args := [d] }
  | _ => none }
def fnDenseOfRow : OpenClaim := { program := "ytbgapjgfocdjoaa", sum := "187256aa720b5aa72907d96c73888b67c7c0e91dc49b887ebefa4f0c043ff84c", func := "loop.example/oneletter/laws.FnDenseOf", spec := "fnDenseOf", inPlace := ["internal/bytealg.IndexByteString", "internal/bytealg.IndexString"], recurses := true, named := ["internal/bytealg.MaxLen"], apart := false }
def FnDenseOfSaid : Prop := fnDenseOfRow.holds Try.pinned (OpenSpec.ofChange fnDenseOfSpec)

/-- ITS FALSE NEIGHBOUR: 'it returns false'. Refute it at one input. -/
def fnDenseOfWrong : ChangeSpec := { name := "fnDenseOf", fn := fun _ => fun
  | [d] => { results := [.lit (.bool false)], args := [d] }
  | _ => none }
def FnDenseOfWrongFalsely : Prop := fnDenseOfRow.holds Try.pinned (OpenSpec.ofChange fnDenseOfWrong)

/- THE SECOND FORM. 'bulk': how many values and letters a reading holds, each counted each time it is reached (what is shared counts as often as it is met; a slice's spare places count too). A statement '..UptoSaid' is the law's where the arguments, and the package variables that the reading takes, are together of bulk at most 1048576: NARROWER than '..Said'. Prove '..Said' where nothing that the law and all that it calls make is longer than what came in: it says more and counts as full. Else prove '..UptoSaid'. A law counts once. -/
mutual
def uptoBulk {H : Type} : DataW H → Nat
  | .lit (.string bytes) => bytes.length + 1
  | .lit _ => 1
  | .nil => 1
  | .ptr d => uptoBulk d + 1
  | .slice elems spare => uptoBulkAll elems + uptoBulkAll spare + 1
  | .agg parts => uptoBulkAll parts + 1
  | .iface _ d => uptoBulk d + 1
  | .map entries => uptoBulkEntries entries + 1
  | .held _ => 1
def uptoBulkAll {H : Type} : List (DataW H) → Nat
  | [] => 0
  | d :: r => uptoBulk d + uptoBulkAll r
def uptoBulkEntries {H : Type} : List (Lit × DataW H) → Nat
  | [] => 0
  | x :: r => uptoBulkEntry x + uptoBulkEntries r
def uptoBulkEntry {H : Type} : Lit × DataW H → Nat
  | (.string bytes, d) => bytes.length + uptoBulk d + 1
  | (_, d) => uptoBulk d + 1
 end
def uptoSmall : (H : Type) → List (DataW H) → Bool := fun _ ds => decide (uptoBulkAll ds ≤ 1048576)
def OpenSpec.upto (s : _root_.Go.ChangeSpec) : _root_.Go.OpenSpec := { _root_.Go.OpenSpec.ofChange s with cond := some uptoSmall }

/-- 'laws.FnExactDenseCount', WHERE WHAT IT READS IS OF BULK AT MOST 1048576: true; the input reads as it did. -/
def fnExactDenseCountUptoRow : OpenClaim := { program := "ytbgapjgfocdjoaa", sum := "187256aa720b5aa72907d96c73888b67c7c0e91dc49b887ebefa4f0c043ff84c", func := "loop.example/oneletter/laws.FnExactDenseCount", spec := "fnExactDenseCount", inPlace := ["internal/bytealg.IndexByteString", "internal/bytealg.IndexString"], named := ["internal/bytealg.MaxLen"], apart := false, narrowed := true }
def FnExactDenseCountUptoSaid : Prop := fnExactDenseCountUptoRow.holds Try.pinned (OpenSpec.upto fnExactDenseCountSpec)

/-- 'laws.FnExactDenseGap', WHERE WHAT IT READS IS OF BULK AT MOST 1048576: true; the input reads as it did. -/
def fnExactDenseGapUptoRow : OpenClaim := { program := "ytbgapjgfocdjoaa", sum := "187256aa720b5aa72907d96c73888b67c7c0e91dc49b887ebefa4f0c043ff84c", func := "loop.example/oneletter/laws.FnExactDenseGap", spec := "fnExactDenseGap", inPlace := ["internal/bytealg.IndexByteString", "internal/bytealg.IndexString"], named := ["internal/bytealg.MaxLen"], apart := false, narrowed := true }
def FnExactDenseGapUptoSaid : Prop := fnExactDenseGapUptoRow.holds Try.pinned (OpenSpec.upto fnExactDenseGapSpec)

/-- 'laws.FnExactDenseRun', WHERE WHAT IT READS IS OF BULK AT MOST 1048576: true; the input reads as it did. -/
def fnExactDenseRunUptoRow : OpenClaim := { program := "ytbgapjgfocdjoaa", sum := "187256aa720b5aa72907d96c73888b67c7c0e91dc49b887ebefa4f0c043ff84c", func := "loop.example/oneletter/laws.FnExactDenseRun", spec := "fnExactDenseRun", inPlace := ["internal/bytealg.IndexByteString", "internal/bytealg.IndexString"], named := ["internal/bytealg.MaxLen"], apart := false, narrowed := true }
def FnExactDenseRunUptoSaid : Prop := fnExactDenseRunUptoRow.holds Try.pinned (OpenSpec.upto fnExactDenseRunSpec)

/-- 'laws.FnExactDenseLess', WHERE WHAT IT READS IS OF BULK AT MOST 1048576: true; the input reads as it did. -/
def fnExactDenseLessUptoRow : OpenClaim := { program := "ytbgapjgfocdjoaa", sum := "187256aa720b5aa72907d96c73888b67c7c0e91dc49b887ebefa4f0c043ff84c", func := "loop.example/oneletter/laws.FnExactDenseLess", spec := "fnExactDenseLess", inPlace := ["internal/bytealg.IndexByteString", "internal/bytealg.IndexString"], named := ["internal/bytealg.MaxLen"], apart := false, narrowed := true }
def FnExactDenseLessUptoSaid : Prop := fnExactDenseLessUptoRow.holds Try.pinned (OpenSpec.upto fnExactDenseLessSpec)

/-- 'laws.FnExactDenseOf', WHERE WHAT IT READS IS OF BULK AT MOST 1048576: true; the input reads as it did. -/
def fnExactDenseOfUptoRow : OpenClaim := { program := "ytbgapjgfocdjoaa", sum := "187256aa720b5aa72907d96c73888b67c7c0e91dc49b887ebefa4f0c043ff84c", func := "loop.example/oneletter/laws.FnExactDenseOf", spec := "fnExactDenseOf", inPlace := ["internal/bytealg.IndexByteString", "internal/bytealg.IndexString"], recurses := true, named := ["internal/bytealg.MaxLen"], apart := false, narrowed := true }
def FnExactDenseOfUptoSaid : Prop := fnExactDenseOfUptoRow.holds Try.pinned (OpenSpec.upto fnExactDenseOfSpec)

/-- 'laws.FnDenseGap', WHERE WHAT IT READS IS OF BULK AT MOST 1048576: true; the input reads as it did. -/
def fnDenseGapUptoRow : OpenClaim := { program := "ytbgapjgfocdjoaa", sum := "187256aa720b5aa72907d96c73888b67c7c0e91dc49b887ebefa4f0c043ff84c", func := "loop.example/oneletter/laws.FnDenseGap", spec := "fnDenseGap", inPlace := ["internal/bytealg.IndexByteString", "internal/bytealg.IndexString"], named := ["internal/bytealg.MaxLen"], apart := false, narrowed := true }
def FnDenseGapUptoSaid : Prop := fnDenseGapUptoRow.holds Try.pinned (OpenSpec.upto fnDenseGapSpec)

/-- 'laws.FnDenseCount', WHERE WHAT IT READS IS OF BULK AT MOST 1048576: true; the input reads as it did. -/
def fnDenseCountUptoRow : OpenClaim := { program := "ytbgapjgfocdjoaa", sum := "187256aa720b5aa72907d96c73888b67c7c0e91dc49b887ebefa4f0c043ff84c", func := "loop.example/oneletter/laws.FnDenseCount", spec := "fnDenseCount", inPlace := ["internal/bytealg.IndexByteString", "internal/bytealg.IndexString"], named := ["internal/bytealg.MaxLen"], apart := false, narrowed := true }
def FnDenseCountUptoSaid : Prop := fnDenseCountUptoRow.holds Try.pinned (OpenSpec.upto fnDenseCountSpec)

/-- 'laws.FnDenseRun', WHERE WHAT IT READS IS OF BULK AT MOST 1048576: true; the input reads as it did. -/
def fnDenseRunUptoRow : OpenClaim := { program := "ytbgapjgfocdjoaa", sum := "187256aa720b5aa72907d96c73888b67c7c0e91dc49b887ebefa4f0c043ff84c", func := "loop.example/oneletter/laws.FnDenseRun", spec := "fnDenseRun", inPlace := ["internal/bytealg.IndexByteString", "internal/bytealg.IndexString"], named := ["internal/bytealg.MaxLen"], apart := false, narrowed := true }
def FnDenseRunUptoSaid : Prop := fnDenseRunUptoRow.holds Try.pinned (OpenSpec.upto fnDenseRunSpec)

/-- 'laws.FnDenseLess', WHERE WHAT IT READS IS OF BULK AT MOST 1048576: true; the input reads as it did. -/
def fnDenseLessUptoRow : OpenClaim := { program := "ytbgapjgfocdjoaa", sum := "187256aa720b5aa72907d96c73888b67c7c0e91dc49b887ebefa4f0c043ff84c", func := "loop.example/oneletter/laws.FnDenseLess", spec := "fnDenseLess", inPlace := ["internal/bytealg.IndexByteString", "internal/bytealg.IndexString"], named := ["internal/bytealg.MaxLen"], apart := false, narrowed := true }
def FnDenseLessUptoSaid : Prop := fnDenseLessUptoRow.holds Try.pinned (OpenSpec.upto fnDenseLessSpec)

/-- 'laws.FnDenseOf', WHERE WHAT IT READS IS OF BULK AT MOST 1048576: true; the input reads as it did. -/
def fnDenseOfUptoRow : OpenClaim := { program := "ytbgapjgfocdjoaa", sum := "187256aa720b5aa72907d96c73888b67c7c0e91dc49b887ebefa4f0c043ff84c", func := "loop.example/oneletter/laws.FnDenseOf", spec := "fnDenseOf", inPlace := ["internal/bytealg.IndexByteString", "internal/bytealg.IndexString"], recurses := true, named := ["internal/bytealg.MaxLen"], apart := false, narrowed := true }
def FnDenseOfUptoSaid : Prop := fnDenseOfUptoRow.holds Try.pinned (OpenSpec.upto fnDenseOfSpec)

end Rows
end Go.Proofs.Ytbgapjgfocdjoaa
