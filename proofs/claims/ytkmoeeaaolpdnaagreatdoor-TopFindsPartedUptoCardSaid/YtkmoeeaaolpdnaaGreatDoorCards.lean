/-
  DERIVED. GIVEN WITH THE SEED: THE CARDS: each row of YtkmoeeaaolpdnaaGreatDoorRows.lean that lists a variable, with what it lists TIED to the program's text (the seventh form; the later family's looks); each row that meets fmt, with fmt's text TOLD by the authors' own Lean function (tested against real Go, not proved from fmt's source: count such statements apart). THE CARD IS WHAT COUNTS. Prove the row's statement (the work); the ties are given (YtkmoeeaaolpdnaaGreatDoorTie.lean); close each card by the builder's one call (the guide's Derived/Test/ToyasCard.lean, 'card_holds'). Laid BY PROGRAM, IN A SANDBOX (cutbox-door.mjs). By AI agents, Wed Nov 11 2026. No macro, syntax, notation, axiom, sorry.
-/
import Derived.Test.YtkmoeeaaolpdnaaGreatDoorRows
import GoSem.ClaimSeven
namespace Go.Proofs.YtkmoeeaaolpdnaaGreatDoor
namespace Rows

/-- THE TIED CARD OF 'farshelftop.TopFindsTwice'. -/
def topFindsTwiceCard : Claim7 := { stood := { row := topFindsTwiceRow, standIns := [], harness := (true, "9068a11ac15d85075417da8e42a6b4b25b587ab345e1702548f4dda7e7456790"), looks := false }, kinds := [], alts := [], laidByText := true, laidKinds := [.data, .pinned], laidTests := true, laidLooks := .later }
def TopFindsTwiceCardSaid : Prop := Claim7.holds Tryz.pinned (.plain (OpenSpec.ofChange topFindsTwiceSpec)) topFindsTwiceCard

/-- THE TIED CARD OF 'farshelftop.TopFindsParted'. -/
def topFindsPartedCard : Claim7 := { stood := { row := topFindsPartedRow, standIns := [], harness := (true, "9068a11ac15d85075417da8e42a6b4b25b587ab345e1702548f4dda7e7456790"), looks := false }, kinds := [], alts := [], laidByText := true, laidKinds := [.data, .pinned], laidTests := true, laidLooks := .later }
def TopFindsPartedCardSaid : Prop := Claim7.holds Tryz.pinned (.plain (OpenSpec.ofChange topFindsPartedSpec)) topFindsPartedCard

/-- THE SECOND FORM's CARD OF 'farshelftop.TopFindsTwice'. -/
def topFindsTwiceUptoCard : Claim7 := { stood := { row := topFindsTwiceUptoRow, standIns := [], harness := (true, "9068a11ac15d85075417da8e42a6b4b25b587ab345e1702548f4dda7e7456790"), looks := false }, kinds := [], alts := [], laidByText := true, laidKinds := [.data, .pinned], laidTests := true, laidLooks := .later }
def TopFindsTwiceUptoCardSaid : Prop := Claim7.holds Tryz.pinned (.plain (OpenSpec.upto topFindsTwiceSpec)) topFindsTwiceUptoCard

/-- THE SECOND FORM's CARD OF 'farshelftop.TopFindsParted'. -/
def topFindsPartedUptoCard : Claim7 := { stood := { row := topFindsPartedUptoRow, standIns := [], harness := (true, "9068a11ac15d85075417da8e42a6b4b25b587ab345e1702548f4dda7e7456790"), looks := false }, kinds := [], alts := [], laidByText := true, laidKinds := [.data, .pinned], laidTests := true, laidLooks := .later }
def TopFindsPartedUptoCardSaid : Prop := Claim7.holds Tryz.pinned (.plain (OpenSpec.upto topFindsPartedSpec)) topFindsPartedUptoCard
end Rows
end Go.Proofs.YtkmoeeaaolpdnaaGreatDoor
