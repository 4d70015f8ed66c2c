/-
  DERIVED. GIVEN WITH THE SEED: THE CARDS: each row of YtkmoeeaaolpdnaaDoorRows.lean that lists a variable, with what it lists TIED to the program's text (the seventh form; the later family's looks); each row that meets fmt, with fmt's text TOLD by the authors' own Lean function (tested against real Go, not proved from fmt's source: count such statements apart). THE CARD IS WHAT COUNTS. Prove the row's statement (the work); the ties are given (YtkmoeeaaolpdnaaDoorTie.lean); close each card by the builder's one call (the guide's Derived/Test/ToyasCard.lean, 'card_holds'). Laid BY PROGRAM, IN A SANDBOX (cutbox-door.mjs). By AI agents, Wed Nov 11 2026. No macro, syntax, notation, axiom, sorry.
-/
import Derived.Test.YtkmoeeaaolpdnaaDoorRows
import GoSem.ClaimSeven
namespace Go.Proofs.YtkmoeeaaolpdnaaDoor
namespace Rows

/-- THE TIED CARD OF 'farshelftop.TopGlobsFronted'. -/
def topGlobsFrontedCard : Claim7 := { stood := { row := topGlobsFrontedRow, standIns := [], harness := (true, "61da0619c33ddf13c93b12f77717f504e20174df11df5607d3a43082006fc7ca"), looks := false }, kinds := [], alts := [], laidByText := true, laidKinds := [.data, .pinned], laidTests := true, laidLooks := .later }
def TopGlobsFrontedCardSaid : Prop := Claim7.holds Tryd.pinned (.plain (OpenSpec.ofChange topGlobsFrontedSpec)) topGlobsFrontedCard

/-- THE TIED CARD OF 'farshelftop.TopFindsMatched'. -/
def topFindsMatchedCard : Claim7 := { stood := { row := topFindsMatchedRow, standIns := [], harness := (true, "61da0619c33ddf13c93b12f77717f504e20174df11df5607d3a43082006fc7ca"), looks := false }, kinds := [], alts := [], laidByText := true, laidKinds := [.data, .pinned], laidTests := true, laidLooks := .later }
def TopFindsMatchedCardSaid : Prop := Claim7.holds Tryd.pinned (.plain (OpenSpec.ofChange topFindsMatchedSpec)) topFindsMatchedCard

/-- THE TIED CARD OF 'farshelftop.TopFindsSlashed'. -/
def topFindsSlashedCard : Claim7 := { stood := { row := topFindsSlashedRow, standIns := [], harness := (true, "61da0619c33ddf13c93b12f77717f504e20174df11df5607d3a43082006fc7ca"), looks := false }, kinds := [], alts := [], laidByText := true, laidKinds := [.data, .pinned], laidTests := true, laidLooks := .later }
def TopFindsSlashedCardSaid : Prop := Claim7.holds Tryd.pinned (.plain (OpenSpec.ofChange topFindsSlashedSpec)) topFindsSlashedCard

/-- THE SECOND FORM's CARD OF 'farshelftop.TopGlobsFronted'. -/
def topGlobsFrontedUptoCard : Claim7 := { stood := { row := topGlobsFrontedUptoRow, standIns := [], harness := (true, "61da0619c33ddf13c93b12f77717f504e20174df11df5607d3a43082006fc7ca"), looks := false }, kinds := [], alts := [], laidByText := true, laidKinds := [.data, .pinned], laidTests := true, laidLooks := .later }
def TopGlobsFrontedUptoCardSaid : Prop := Claim7.holds Tryd.pinned (.plain (OpenSpec.upto topGlobsFrontedSpec)) topGlobsFrontedUptoCard

/-- THE SECOND FORM's CARD OF 'farshelftop.TopFindsMatched'. -/
def topFindsMatchedUptoCard : Claim7 := { stood := { row := topFindsMatchedUptoRow, standIns := [], harness := (true, "61da0619c33ddf13c93b12f77717f504e20174df11df5607d3a43082006fc7ca"), looks := false }, kinds := [], alts := [], laidByText := true, laidKinds := [.data, .pinned], laidTests := true, laidLooks := .later }
def TopFindsMatchedUptoCardSaid : Prop := Claim7.holds Tryd.pinned (.plain (OpenSpec.upto topFindsMatchedSpec)) topFindsMatchedUptoCard

/-- THE SECOND FORM's CARD OF 'farshelftop.TopFindsSlashed'. -/
def topFindsSlashedUptoCard : Claim7 := { stood := { row := topFindsSlashedUptoRow, standIns := [], harness := (true, "61da0619c33ddf13c93b12f77717f504e20174df11df5607d3a43082006fc7ca"), looks := false }, kinds := [], alts := [], laidByText := true, laidKinds := [.data, .pinned], laidTests := true, laidLooks := .later }
def TopFindsSlashedUptoCardSaid : Prop := Claim7.holds Tryd.pinned (.plain (OpenSpec.upto topFindsSlashedSpec)) topFindsSlashedUptoCard
end Rows
end Go.Proofs.YtkmoeeaaolpdnaaDoor
