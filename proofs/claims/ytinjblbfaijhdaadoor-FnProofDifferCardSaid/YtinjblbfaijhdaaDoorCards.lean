/-
  DERIVED. GIVEN WITH THE SEED: THE CARDS: each row of YtinjblbfaijhdaaDoorRows.lean that lists a variable, with what it lists TIED to the program's text (the seventh form; the later family's looks); each row that meets fmt, with fmt's text TOLD by the authors' own Lean function (tested against real Go, not proved from fmt's source: count such statements apart). THE CARD IS WHAT COUNTS. Prove the row's statement (the work); the ties are given (YtinjblbfaijhdaaDoorTie.lean); close each card by the builder's one call (the guide's Derived/Test/ToyasCard.lean, 'card_holds'). Laid BY PROGRAM, IN A SANDBOX (cutbox-door.mjs). By AI agents, Wed Nov 11 2026. No macro, syntax, notation, axiom, sorry.
-/
import Derived.Test.YtinjblbfaijhdaaDoorRows
import GoSem.ClaimSeven
namespace Go.Proofs.YtinjblbfaijhdaaDoor
namespace Rows

/-- THE TIED CARD OF 'laws.FnProofRest'. -/
def fnProofRestCard : Claim7 := { stood := { row := fnProofRestRow, standIns := [], harness := (true, "59c3f576338b88bba6b5792d406857930ac92b98394e4039864764c2cf2507ac"), looks := true }, kinds := [], alts := [], laidByText := true, laidKinds := [.data, .data, .data, .data, .sentinel, .sentinel, .pinned], laidTests := true, laidLooks := .later }
def FnProofRestCardSaid : Prop := Claim7.holds Tryd.pinned (.plain (OpenSpec.ofChange fnProofRestSpec)) fnProofRestCard

/-- THE TIED CARD OF 'laws.FnProofRestIs'. -/
def fnProofRestIsCard : Claim7 := { stood := { row := fnProofRestIsRow, standIns := [], harness := (true, "59c3f576338b88bba6b5792d406857930ac92b98394e4039864764c2cf2507ac"), looks := true }, kinds := [], alts := [], laidByText := true, laidKinds := [.data, .data, .data, .data, .sentinel, .sentinel, .pinned], laidTests := true, laidLooks := .later }
def FnProofRestIsCardSaid : Prop := Claim7.holds Tryd.pinned (.plain (OpenSpec.ofChange fnProofRestIsSpec)) fnProofRestIsCard

/-- THE TIED CARD OF 'laws.FnProofSum'. -/
def fnProofSumCard : Claim7 := { stood := { row := fnProofSumRow, standIns := [], harness := (true, "59c3f576338b88bba6b5792d406857930ac92b98394e4039864764c2cf2507ac"), looks := true }, kinds := [], alts := [], laidByText := true, laidKinds := [.data, .data, .data, .data, .sentinel, .sentinel, .pinned], laidTests := true, laidLooks := .later }
def FnProofSumCardSaid : Prop := Claim7.holds Tryd.pinned (.plain (OpenSpec.ofChange fnProofSumSpec)) fnProofSumCard

/-- THE TIED CARD OF 'laws.FnExactProofDiffer'. -/
def fnExactProofDifferCard : Claim7 := { stood := { row := fnExactProofDifferRow, standIns := [], harness := (true, "59c3f576338b88bba6b5792d406857930ac92b98394e4039864764c2cf2507ac"), looks := true }, kinds := [], alts := [], laidByText := true, laidKinds := [.data, .data, .data], laidTests := true, laidLooks := .later }
def FnExactProofDifferCardSaid : Prop := Claim7.holds Tryd.pinned (.plain (OpenSpec.ofChange fnExactProofDifferSpec)) fnExactProofDifferCard

/-- THE TIED CARD OF 'laws.FnExactProofSum'. -/
def fnExactProofSumCard : Claim7 := { stood := { row := fnExactProofSumRow, standIns := [], harness := (true, "59c3f576338b88bba6b5792d406857930ac92b98394e4039864764c2cf2507ac"), looks := true }, kinds := [], alts := [], laidByText := true, laidKinds := [.data, .data, .data], laidTests := true, laidLooks := .later }
def FnExactProofSumCardSaid : Prop := Claim7.holds Tryd.pinned (.plain (OpenSpec.ofChange fnExactProofSumSpec)) fnExactProofSumCard

/-- THE TIED CARD OF 'laws.FnProofEither'. -/
def fnProofEitherCard : Claim7 := { stood := { row := fnProofEitherRow, standIns := [], harness := (true, "59c3f576338b88bba6b5792d406857930ac92b98394e4039864764c2cf2507ac"), looks := true }, kinds := [], alts := [], laidByText := true, laidKinds := [.data, .data, .data], laidTests := true, laidLooks := .later }
def FnProofEitherCardSaid : Prop := Claim7.holds Tryd.pinned (.plain (OpenSpec.ofChange fnProofEitherSpec)) fnProofEitherCard

/-- THE TIED CARD OF 'laws.FnExactProofDifferIs'. -/
def fnExactProofDifferIsCard : Claim7 := { stood := { row := fnExactProofDifferIsRow, standIns := [], harness := (true, "59c3f576338b88bba6b5792d406857930ac92b98394e4039864764c2cf2507ac"), looks := true }, kinds := [], alts := [], laidByText := true, laidKinds := [.data, .data, .data, .data, .sentinel, .sentinel, .pinned], laidTests := true, laidLooks := .later }
def FnExactProofDifferIsCardSaid : Prop := Claim7.holds Tryd.pinned (.plain (OpenSpec.ofChange fnExactProofDifferIsSpec)) fnExactProofDifferIsCard

/-- THE TIED CARD OF 'laws.FnExactProofSumIs'. -/
def fnExactProofSumIsCard : Claim7 := { stood := { row := fnExactProofSumIsRow, standIns := [], harness := (true, "59c3f576338b88bba6b5792d406857930ac92b98394e4039864764c2cf2507ac"), looks := true }, kinds := [], alts := [], laidByText := true, laidKinds := [.data, .data, .data, .data, .sentinel, .sentinel, .pinned], laidTests := true, laidLooks := .later }
def FnExactProofSumIsCardSaid : Prop := Claim7.holds Tryd.pinned (.plain (OpenSpec.ofChange fnExactProofSumIsSpec)) fnExactProofSumIsCard

/-- THE TIED CARD OF 'laws.FnExactProofRestIs'. -/
def fnExactProofRestIsCard : Claim7 := { stood := { row := fnExactProofRestIsRow, standIns := [], harness := (true, "59c3f576338b88bba6b5792d406857930ac92b98394e4039864764c2cf2507ac"), looks := true }, kinds := [], alts := [], laidByText := true, laidKinds := [.data, .data, .data, .data, .sentinel, .sentinel, .pinned], laidTests := true, laidLooks := .later }
def FnExactProofRestIsCardSaid : Prop := Claim7.holds Tryd.pinned (.plain (OpenSpec.ofChange fnExactProofRestIsSpec)) fnExactProofRestIsCard

/-- THE TIED CARD OF 'laws.FnProofDifferIs'. -/
def fnProofDifferIsCard : Claim7 := { stood := { row := fnProofDifferIsRow, standIns := [], harness := (true, "59c3f576338b88bba6b5792d406857930ac92b98394e4039864764c2cf2507ac"), looks := true }, kinds := [], alts := [], laidByText := true, laidKinds := [.data, .data, .data, .data, .sentinel, .sentinel, .pinned], laidTests := true, laidLooks := .later }
def FnProofDifferIsCardSaid : Prop := Claim7.holds Tryd.pinned (.plain (OpenSpec.ofChange fnProofDifferIsSpec)) fnProofDifferIsCard

/-- THE TIED CARD OF 'laws.FnProofSumIs'. -/
def fnProofSumIsCard : Claim7 := { stood := { row := fnProofSumIsRow, standIns := [], harness := (true, "59c3f576338b88bba6b5792d406857930ac92b98394e4039864764c2cf2507ac"), looks := true }, kinds := [], alts := [], laidByText := true, laidKinds := [.data, .data, .data, .data, .sentinel, .sentinel, .pinned], laidTests := true, laidLooks := .later }
def FnProofSumIsCardSaid : Prop := Claim7.holds Tryd.pinned (.plain (OpenSpec.ofChange fnProofSumIsSpec)) fnProofSumIsCard

/-- THE TIED CARD OF 'laws.FnProofDiffer'. -/
def fnProofDifferCard : Claim7 := { stood := { row := fnProofDifferRow, standIns := [], harness := (true, "59c3f576338b88bba6b5792d406857930ac92b98394e4039864764c2cf2507ac"), looks := true }, kinds := [], alts := [], laidByText := true, laidKinds := [.data, .data, .data, .data, .sentinel, .sentinel, .pinned], laidTests := true, laidLooks := .later }
def FnProofDifferCardSaid : Prop := Claim7.holds Tryd.pinned (.plain (OpenSpec.ofChange fnProofDifferSpec)) fnProofDifferCard

/-- THE SECOND FORM's CARD OF 'laws.FnProofRest'. -/
def fnProofRestUptoCard : Claim7 := { stood := { row := fnProofRestUptoRow, standIns := [], harness := (true, "59c3f576338b88bba6b5792d406857930ac92b98394e4039864764c2cf2507ac"), looks := true }, kinds := [], alts := [], laidByText := true, laidKinds := [.data, .data, .data, .data, .sentinel, .sentinel, .pinned], laidTests := true, laidLooks := .later }
def FnProofRestUptoCardSaid : Prop := Claim7.holds Tryd.pinned (.plain (OpenSpec.upto fnProofRestSpec)) fnProofRestUptoCard

/-- THE SECOND FORM's CARD OF 'laws.FnProofRestIs'. -/
def fnProofRestIsUptoCard : Claim7 := { stood := { row := fnProofRestIsUptoRow, standIns := [], harness := (true, "59c3f576338b88bba6b5792d406857930ac92b98394e4039864764c2cf2507ac"), looks := true }, kinds := [], alts := [], laidByText := true, laidKinds := [.data, .data, .data, .data, .sentinel, .sentinel, .pinned], laidTests := true, laidLooks := .later }
def FnProofRestIsUptoCardSaid : Prop := Claim7.holds Tryd.pinned (.plain (OpenSpec.upto fnProofRestIsSpec)) fnProofRestIsUptoCard

/-- THE SECOND FORM's CARD OF 'laws.FnProofSum'. -/
def fnProofSumUptoCard : Claim7 := { stood := { row := fnProofSumUptoRow, standIns := [], harness := (true, "59c3f576338b88bba6b5792d406857930ac92b98394e4039864764c2cf2507ac"), looks := true }, kinds := [], alts := [], laidByText := true, laidKinds := [.data, .data, .data, .data, .sentinel, .sentinel, .pinned], laidTests := true, laidLooks := .later }
def FnProofSumUptoCardSaid : Prop := Claim7.holds Tryd.pinned (.plain (OpenSpec.upto fnProofSumSpec)) fnProofSumUptoCard

/-- THE SECOND FORM's CARD OF 'laws.FnExactProofDiffer'. -/
def fnExactProofDifferUptoCard : Claim7 := { stood := { row := fnExactProofDifferUptoRow, standIns := [], harness := (true, "59c3f576338b88bba6b5792d406857930ac92b98394e4039864764c2cf2507ac"), looks := true }, kinds := [], alts := [], laidByText := true, laidKinds := [.data, .data, .data], laidTests := true, laidLooks := .later }
def FnExactProofDifferUptoCardSaid : Prop := Claim7.holds Tryd.pinned (.plain (OpenSpec.upto fnExactProofDifferSpec)) fnExactProofDifferUptoCard

/-- THE SECOND FORM's CARD OF 'laws.FnExactProofSum'. -/
def fnExactProofSumUptoCard : Claim7 := { stood := { row := fnExactProofSumUptoRow, standIns := [], harness := (true, "59c3f576338b88bba6b5792d406857930ac92b98394e4039864764c2cf2507ac"), looks := true }, kinds := [], alts := [], laidByText := true, laidKinds := [.data, .data, .data], laidTests := true, laidLooks := .later }
def FnExactProofSumUptoCardSaid : Prop := Claim7.holds Tryd.pinned (.plain (OpenSpec.upto fnExactProofSumSpec)) fnExactProofSumUptoCard

/-- THE SECOND FORM's CARD OF 'laws.FnProofEither'. -/
def fnProofEitherUptoCard : Claim7 := { stood := { row := fnProofEitherUptoRow, standIns := [], harness := (true, "59c3f576338b88bba6b5792d406857930ac92b98394e4039864764c2cf2507ac"), looks := true }, kinds := [], alts := [], laidByText := true, laidKinds := [.data, .data, .data], laidTests := true, laidLooks := .later }
def FnProofEitherUptoCardSaid : Prop := Claim7.holds Tryd.pinned (.plain (OpenSpec.upto fnProofEitherSpec)) fnProofEitherUptoCard

/-- THE SECOND FORM's CARD OF 'laws.FnExactProofDifferIs'. -/
def fnExactProofDifferIsUptoCard : Claim7 := { stood := { row := fnExactProofDifferIsUptoRow, standIns := [], harness := (true, "59c3f576338b88bba6b5792d406857930ac92b98394e4039864764c2cf2507ac"), looks := true }, kinds := [], alts := [], laidByText := true, laidKinds := [.data, .data, .data, .data, .sentinel, .sentinel, .pinned], laidTests := true, laidLooks := .later }
def FnExactProofDifferIsUptoCardSaid : Prop := Claim7.holds Tryd.pinned (.plain (OpenSpec.upto fnExactProofDifferIsSpec)) fnExactProofDifferIsUptoCard

/-- THE SECOND FORM's CARD OF 'laws.FnExactProofSumIs'. -/
def fnExactProofSumIsUptoCard : Claim7 := { stood := { row := fnExactProofSumIsUptoRow, standIns := [], harness := (true, "59c3f576338b88bba6b5792d406857930ac92b98394e4039864764c2cf2507ac"), looks := true }, kinds := [], alts := [], laidByText := true, laidKinds := [.data, .data, .data, .data, .sentinel, .sentinel, .pinned], laidTests := true, laidLooks := .later }
def FnExactProofSumIsUptoCardSaid : Prop := Claim7.holds Tryd.pinned (.plain (OpenSpec.upto fnExactProofSumIsSpec)) fnExactProofSumIsUptoCard

/-- THE SECOND FORM's CARD OF 'laws.FnExactProofRestIs'. -/
def fnExactProofRestIsUptoCard : Claim7 := { stood := { row := fnExactProofRestIsUptoRow, standIns := [], harness := (true, "59c3f576338b88bba6b5792d406857930ac92b98394e4039864764c2cf2507ac"), looks := true }, kinds := [], alts := [], laidByText := true, laidKinds := [.data, .data, .data, .data, .sentinel, .sentinel, .pinned], laidTests := true, laidLooks := .later }
def FnExactProofRestIsUptoCardSaid : Prop := Claim7.holds Tryd.pinned (.plain (OpenSpec.upto fnExactProofRestIsSpec)) fnExactProofRestIsUptoCard

/-- THE SECOND FORM's CARD OF 'laws.FnProofDifferIs'. -/
def fnProofDifferIsUptoCard : Claim7 := { stood := { row := fnProofDifferIsUptoRow, standIns := [], harness := (true, "59c3f576338b88bba6b5792d406857930ac92b98394e4039864764c2cf2507ac"), looks := true }, kinds := [], alts := [], laidByText := true, laidKinds := [.data, .data, .data, .data, .sentinel, .sentinel, .pinned], laidTests := true, laidLooks := .later }
def FnProofDifferIsUptoCardSaid : Prop := Claim7.holds Tryd.pinned (.plain (OpenSpec.upto fnProofDifferIsSpec)) fnProofDifferIsUptoCard

/-- THE SECOND FORM's CARD OF 'laws.FnProofSumIs'. -/
def fnProofSumIsUptoCard : Claim7 := { stood := { row := fnProofSumIsUptoRow, standIns := [], harness := (true, "59c3f576338b88bba6b5792d406857930ac92b98394e4039864764c2cf2507ac"), looks := true }, kinds := [], alts := [], laidByText := true, laidKinds := [.data, .data, .data, .data, .sentinel, .sentinel, .pinned], laidTests := true, laidLooks := .later }
def FnProofSumIsUptoCardSaid : Prop := Claim7.holds Tryd.pinned (.plain (OpenSpec.upto fnProofSumIsSpec)) fnProofSumIsUptoCard

/-- THE SECOND FORM's CARD OF 'laws.FnProofDiffer'. -/
def fnProofDifferUptoCard : Claim7 := { stood := { row := fnProofDifferUptoRow, standIns := [], harness := (true, "59c3f576338b88bba6b5792d406857930ac92b98394e4039864764c2cf2507ac"), looks := true }, kinds := [], alts := [], laidByText := true, laidKinds := [.data, .data, .data, .data, .sentinel, .sentinel, .pinned], laidTests := true, laidLooks := .later }
def FnProofDifferUptoCardSaid : Prop := Claim7.holds Tryd.pinned (.plain (OpenSpec.upto fnProofDifferSpec)) fnProofDifferUptoCard
end Rows
end Go.Proofs.YtinjblbfaijhdaaDoor
