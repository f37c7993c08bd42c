/-
  No cell of these rows narrows 'for every input' (looked for: loops, veiled, ifaces, maps, wideKeys, modest, calm, conditions, laid).
  DERIVED. THE GIVEN ROWS OF THIS SEAT. 5 by the template 'for every input the law returns true; each argument reads behind the call as it read before'; 0 by the template 'total and deterministic' (their statements: YtedhckahjinieaaTotals.lean).
  GIVEN WITH THE SEED: the statements are not yours to turn. If you find one false, say at which input.
  Laid BY PROGRAM, IN A SANDBOX (cutbox-rows.mjs): the forced cells as the released guide's own fill.sh prints them over the translation 73c79a7d89fec5a6… (all of the seat's roots in one cut). By AI agents, Wed Nov 11 2026. No macro, syntax, notation, axiom, sorry.
-/
import Derived.Test.YtedhckahjinieaaChecked
import GoSem.Claim
import GoSem.ClaimJoined
import GoSem.ClaimMapViews
import Derived.JoinedTies
import Derived.KernelRfl
namespace Go.Proofs.Ytedhckahjinieaa
/- THE CELL 'sum', in the pinned program and in every row, IS THE sha256 OF THE DUMP (.gsa) THAT YtedhckahjinieaaProg.lean LOADS. Nothing in Lean hashes anything: it is a label: what it is worth is what the hold of that sum in a sandbox is worth. -/
noncomputable def Try.pinned : Pinned := { name := "ytedhckahjinieaa", sum := "73c79a7d89fec5a6ad00fcdbbbdb27e13b2a595549e8c1bbf44049482d156ec6", checked := Try.checked }
namespace Rows
def none {H : Type} : Left H := { results := [], args := [] }

/-- 'laws.FnTermHas': WHATEVER THE INPUT: true; the input reads as it did. -/
def fnTermHasSpec : ChangeSpec := { name := "fnTermHas", fn := fun _ => fun
  | [d] => { results := [.lit (.bool true)], args := [d] }
  | _ => none }
def fnTermHasRow : OpenClaim := { program := "ytedhckahjinieaa", sum := "73c79a7d89fec5a6ad00fcdbbbdb27e13b2a595549e8c1bbf44049482d156ec6", func := "loop.example/oneletter/laws.FnTermHas", spec := "fnTermHas", inPlace := ["internal/bytealg.IndexByteString", "internal/bytealg.IndexString", "internal/abi.NoEscape"], unfollowed := true, recurses := true, named := ["internal/bytealg.MaxLen"], apart := false }
def FnTermHasSaid : Prop := fnTermHasRow.holds Try.pinned (OpenSpec.ofChange fnTermHasSpec)

/-- ITS FALSE NEIGHBOUR: 'it returns false'. Refute it at one input. -/
def fnTermHasWrong : ChangeSpec := { name := "fnTermHas", fn := fun _ => fun
  | [d] => { results := [.lit (.bool false)], args := [d] }
  | _ => none }
def FnTermHasWrongFalsely : Prop := fnTermHasRow.holds Try.pinned (OpenSpec.ofChange fnTermHasWrong)

/-- 'laws.FnExactTermSet': WHATEVER THE INPUT: true; the input reads as it did. -/
def fnExactTermSetSpec : ChangeSpec := { name := "fnExactTermSet", fn := fun _ => fun
  | [d] => { results := [.lit (.bool true)], args := [d] }
  | _ => none }
def fnExactTermSetRow : OpenClaim := { program := "ytedhckahjinieaa", sum := "73c79a7d89fec5a6ad00fcdbbbdb27e13b2a595549e8c1bbf44049482d156ec6", func := "loop.example/oneletter/laws.FnExactTermSet", spec := "fnExactTermSet", inPlace := ["internal/bytealg.IndexByteString", "internal/bytealg.IndexString", "internal/abi.NoEscape"], unfollowed := true, recurses := true, named := ["internal/bytealg.MaxLen"], apart := false }
def FnExactTermSetSaid : Prop := fnExactTermSetRow.holds Try.pinned (OpenSpec.ofChange fnExactTermSetSpec)

/-- ITS FALSE NEIGHBOUR: 'it returns false'. Refute it at one input. -/
def fnExactTermSetWrong : ChangeSpec := { name := "fnExactTermSet", fn := fun _ => fun
  | [d] => { results := [.lit (.bool false)], args := [d] }
  | _ => none }
def FnExactTermSetWrongFalsely : Prop := fnExactTermSetRow.holds Try.pinned (OpenSpec.ofChange fnExactTermSetWrong)

/-- 'laws.FnExactTermSame': WHATEVER THE INPUT: true; the input reads as it did. -/
def fnExactTermSameSpec : ChangeSpec := { name := "fnExactTermSame", fn := fun _ => fun
  | [d1, d2] => { results := [.lit (.bool true)], args := [d1, d2] }
  | _ => none }
def fnExactTermSameRow : OpenClaim := { program := "ytedhckahjinieaa", sum := "73c79a7d89fec5a6ad00fcdbbbdb27e13b2a595549e8c1bbf44049482d156ec6", func := "loop.example/oneletter/laws.FnExactTermSame", spec := "fnExactTermSame", inPlace := ["internal/bytealg.IndexByteString", "internal/bytealg.IndexString", "internal/abi.NoEscape"], unfollowed := true, recurses := true, named := ["internal/bytealg.MaxLen"], apart := false }
def FnExactTermSameSaid : Prop := fnExactTermSameRow.holds Try.pinned (OpenSpec.ofChange fnExactTermSameSpec)

/-- ITS FALSE NEIGHBOUR: 'it returns false'. Refute it at one input. -/
def fnExactTermSameWrong : ChangeSpec := { name := "fnExactTermSame", fn := fun _ => fun
  | [d1, d2] => { results := [.lit (.bool false)], args := [d1, d2] }
  | _ => none }
def FnExactTermSameWrongFalsely : Prop := fnExactTermSameRow.holds Try.pinned (OpenSpec.ofChange fnExactTermSameWrong)

/-- 'laws.FnTermSame': WHATEVER THE INPUT: true; the input reads as it did. -/
def fnTermSameSpec : ChangeSpec := { name := "fnTermSame", fn := fun _ => fun
  | [d] => { results := [.lit (.bool true)], args := [d] }
  | _ => none }
def fnTermSameRow : OpenClaim := { program := "ytedhckahjinieaa", sum := "73c79a7d89fec5a6ad00fcdbbbdb27e13b2a595549e8c1bbf44049482d156ec6", func := "loop.example/oneletter/laws.FnTermSame", spec := "fnTermSame", inPlace := ["internal/bytealg.IndexByteString", "internal/bytealg.IndexString", "internal/abi.NoEscape"], unfollowed := true, recurses := true, named := ["internal/bytealg.MaxLen"], apart := false }
def FnTermSameSaid : Prop := fnTermSameRow.holds Try.pinned (OpenSpec.ofChange fnTermSameSpec)

/-- ITS FALSE NEIGHBOUR: 'it returns false'. Refute it at one input. -/
def fnTermSameWrong : ChangeSpec := { name := "fnTermSame", fn := fun _ => fun
  | [d] => { results := [.lit (.bool false)], args := [d] }
  | _ => none }
def FnTermSameWrongFalsely : Prop := fnTermSameRow.holds Try.pinned (OpenSpec.ofChange fnTermSameWrong)

/-- 'laws.FnTermSet': WHATEVER THE INPUT: true; the input reads as it did. -/
def fnTermSetSpec : ChangeSpec := { name := "fnTermSet", fn := fun _ => fun
  | [d] => { results := [.lit (.bool true)], args := [d] }
  | _ => none }
def fnTermSetRow : OpenClaim := { program := "ytedhckahjinieaa", sum := "73c79a7d89fec5a6ad00fcdbbbdb27e13b2a595549e8c1bbf44049482d156ec6", func := "loop.example/oneletter/laws.FnTermSet", spec := "fnTermSet", inPlace := ["internal/bytealg.IndexByteString", "internal/bytealg.IndexString", "internal/abi.NoEscape"], unfollowed := true, recurses := true, named := ["internal/bytealg.MaxLen"], apart := false }
def FnTermSetSaid : Prop := fnTermSetRow.holds Try.pinned (OpenSpec.ofChange fnTermSetSpec)

/-- ITS FALSE NEIGHBOUR: 'it returns false'. Refute it at one input. -/
def fnTermSetWrong : ChangeSpec := { name := "fnTermSet", fn := fun _ => fun
  | [d] => { results := [.lit (.bool false)], args := [d] }
  | _ => none }
def FnTermSetWrongFalsely : Prop := fnTermSetRow.holds Try.pinned (OpenSpec.ofChange fnTermSetWrong)

/- THE SECOND FORM. 'bulk': how many values and letters a reading holds, each counted each time it is reached (what is shared counts as often as it is met; a slice's spare places count too). A statement '..UptoSaid' is the law's where the arguments, and the package variables that the reading takes, are together of bulk at most 1048576: NARROWER than '..Said'. Prove '..Said' where nothing that the law and all that it calls make is longer than what came in: it says more and counts as full. Else prove '..UptoSaid'. A law counts once. -/
mutual
def uptoBulk {H : Type} : DataW H → Nat
  | .lit (.string bytes) => bytes.length + 1
  | .lit _ => 1
  | .nil => 1
  | .ptr d => uptoBulk d + 1
  | .slice elems spare => uptoBulkAll elems + uptoBulkAll spare + 1
  | .agg parts => uptoBulkAll parts + 1
  | .iface _ d => uptoBulk d + 1
  | .map entries => uptoBulkEntries entries + 1
  | .held _ => 1
def uptoBulkAll {H : Type} : List (DataW H) → Nat
  | [] => 0
  | d :: r => uptoBulk d + uptoBulkAll r
def uptoBulkEntries {H : Type} : List (Lit × DataW H) → Nat
  | [] => 0
  | x :: r => uptoBulkEntry x + uptoBulkEntries r
def uptoBulkEntry {H : Type} : Lit × DataW H → Nat
  | (.string bytes, d) => bytes.length + uptoBulk d + 1
  | (_, d) => uptoBulk d + 1
 end
def uptoSmall : (H : Type) → List (DataW H) → Bool := fun _ ds => decide (uptoBulkAll ds ≤ 1048576)
def OpenSpec.upto (s : _root_.Go.ChangeSpec) : _root_.Go.OpenSpec := { _root_.Go.OpenSpec.ofChange s with cond := some uptoSmall }

/-- 'laws.FnTermHas', WHERE WHAT IT READS IS OF BULK AT MOST 1048576: true; the input reads as it did. -/
def fnTermHasUptoRow : OpenClaim := { program := "ytedhckahjinieaa", sum := "73c79a7d89fec5a6ad00fcdbbbdb27e13b2a595549e8c1bbf44049482d156ec6", func := "loop.example/oneletter/laws.FnTermHas", spec := "fnTermHas", inPlace := ["internal/bytealg.IndexByteString", "internal/bytealg.IndexString", "internal/abi.NoEscape"], unfollowed := true, recurses := true, named := ["internal/bytealg.MaxLen"], apart := false, narrowed := true }
def FnTermHasUptoSaid : Prop := fnTermHasUptoRow.holds Try.pinned (OpenSpec.upto fnTermHasSpec)

/-- 'laws.FnExactTermSet', WHERE WHAT IT READS IS OF BULK AT MOST 1048576: true; the input reads as it did. -/
def fnExactTermSetUptoRow : OpenClaim := { program := "ytedhckahjinieaa", sum := "73c79a7d89fec5a6ad00fcdbbbdb27e13b2a595549e8c1bbf44049482d156ec6", func := "loop.example/oneletter/laws.FnExactTermSet", spec := "fnExactTermSet", inPlace := ["internal/bytealg.IndexByteString", "internal/bytealg.IndexString", "internal/abi.NoEscape"], unfollowed := true, recurses := true, named := ["internal/bytealg.MaxLen"], apart := false, narrowed := true }
def FnExactTermSetUptoSaid : Prop := fnExactTermSetUptoRow.holds Try.pinned (OpenSpec.upto fnExactTermSetSpec)

/-- 'laws.FnExactTermSame', WHERE WHAT IT READS IS OF BULK AT MOST 1048576: true; the input reads as it did. -/
def fnExactTermSameUptoRow : OpenClaim := { program := "ytedhckahjinieaa", sum := "73c79a7d89fec5a6ad00fcdbbbdb27e13b2a595549e8c1bbf44049482d156ec6", func := "loop.example/oneletter/laws.FnExactTermSame", spec := "fnExactTermSame", inPlace := ["internal/bytealg.IndexByteString", "internal/bytealg.IndexString", "internal/abi.NoEscape"], unfollowed := true, recurses := true, named := ["internal/bytealg.MaxLen"], apart := false, narrowed := true }
def FnExactTermSameUptoSaid : Prop := fnExactTermSameUptoRow.holds Try.pinned (OpenSpec.upto fnExactTermSameSpec)

/-- 'laws.FnTermSame', WHERE WHAT IT READS IS OF BULK AT MOST 1048576: true; the input reads as it did. -/
def fnTermSameUptoRow : OpenClaim := { program := "ytedhckahjinieaa", sum := "73c79a7d89fec5a6ad00fcdbbbdb27e13b2a595549e8c1bbf44049482d156ec6", func := "loop.example/oneletter/laws.FnTermSame", spec := "fnTermSame", inPlace := ["internal/bytealg.IndexByteString", "internal/bytealg.IndexString", "internal/abi.NoEscape"], unfollowed := true, recurses := true, named := ["internal/bytealg.MaxLen"], apart := false, narrowed := true }
def FnTermSameUptoSaid : Prop := fnTermSameUptoRow.holds Try.pinned (OpenSpec.upto fnTermSameSpec)

/-- 'laws.FnTermSet', WHERE WHAT IT READS IS OF BULK AT MOST 1048576: true; the input reads as it did. -/
def fnTermSetUptoRow : OpenClaim := { program := "ytedhckahjinieaa", sum := "73c79a7d89fec5a6ad00fcdbbbdb27e13b2a595549e8c1bbf44049482d156ec6", func := "loop.example/oneletter/laws.FnTermSet", spec := "fnTermSet", inPlace := ["internal/bytealg.IndexByteString", "internal/bytealg.IndexString", "internal/abi.NoEscape"], unfollowed := true, recurses := true, named := ["internal/bytealg.MaxLen"], apart := false, narrowed := true }
def FnTermSetUptoSaid : Prop := fnTermSetUptoRow.holds Try.pinned (OpenSpec.upto fnTermSetSpec)

end Rows
end Go.Proofs.Ytedhckahjinieaa
