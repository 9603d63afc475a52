/-
  DERIVED. GIVEN WITH THE SEED: THE CARDS: each row of YtakainogpokhgaaGreatDoorRows.lean that lists a variable, with what it lists TIED to the program's text (the seventh form; the later family's looks); each row that meets fmt, with fmt's text TOLD by the authors' own Lean function (tested against real Go, not proved from fmt's source: count such statements apart). THE CARD IS WHAT COUNTS. Prove the row's statement (the work); the ties are given (YtakainogpokhgaaGreatDoorTie.lean); close each card by the builder's one call (the guide's Derived/Test/ToyasCard.lean, 'card_holds'). Laid BY PROGRAM, IN A SANDBOX (cutbox-door.mjs). By AI agents, Wed Nov 11 2026. No macro, syntax, notation, axiom, sorry.
-/
import Derived.Test.YtakainogpokhgaaGreatDoorRows
import GoSem.ClaimSeven
namespace Go.Proofs.YtakainogpokhgaaGreatDoor
namespace Rows

/-- THE TIED CARD OF 'lammastidelaw1.EventBack'. -/
def eventBackCard : Claim7 := { stood := { row := eventBackRow, standIns := [], harness := (true, "958ce5fb5561b88069323e89798a52ed8d941b7f2de19eb3112d05b893b9c7ed"), looks := true }, kinds := [], alts := [], laidByText := true, laidKinds := [.data, .data, .data, .data, .sentinel, .sentinel, .sentinel, .sentinel, .sentinel, .sentinel, .sentinel, .sentinel, .sentinel, .pinned], laidTests := true, laidLooks := .later }
def EventBackCardSaid : Prop := Claim7.holds Tryz.pinned (.plain (OpenSpec.ofChange eventBackSpec)) eventBackCard

/-- THE TIED CARD OF 'lammastidelaw3.RefsStay'. -/
def refsStayCard : Claim7 := { stood := { row := refsStayRow, standIns := [], harness := (true, "958ce5fb5561b88069323e89798a52ed8d941b7f2de19eb3112d05b893b9c7ed"), looks := true }, kinds := [], alts := [], laidByText := true, laidKinds := [.data, .data, .data, .data, .sentinel, .sentinel, .sentinel, .sentinel, .sentinel, .sentinel, .sentinel, .sentinel, .sentinel, .sentinel, .pinned], laidTests := true, laidLooks := .later }
def RefsStayCardSaid : Prop := Claim7.holds Tryz.pinned (.plain (OpenSpec.ofChange refsStaySpec)) refsStayCard

/-- THE SECOND FORM's CARD OF 'lammastidelaw1.EventBack'. -/
def eventBackUptoCard : Claim7 := { stood := { row := eventBackUptoRow, standIns := [], harness := (true, "958ce5fb5561b88069323e89798a52ed8d941b7f2de19eb3112d05b893b9c7ed"), looks := true }, kinds := [], alts := [], laidByText := true, laidKinds := [.data, .data, .data, .data, .sentinel, .sentinel, .sentinel, .sentinel, .sentinel, .sentinel, .sentinel, .sentinel, .sentinel, .pinned], laidTests := true, laidLooks := .later }
def EventBackUptoCardSaid : Prop := Claim7.holds Tryz.pinned (.plain (OpenSpec.upto eventBackSpec)) eventBackUptoCard

/-- THE SECOND FORM's CARD OF 'lammastidelaw3.RefsStay'. -/
def refsStayUptoCard : Claim7 := { stood := { row := refsStayUptoRow, standIns := [], harness := (true, "958ce5fb5561b88069323e89798a52ed8d941b7f2de19eb3112d05b893b9c7ed"), looks := true }, kinds := [], alts := [], laidByText := true, laidKinds := [.data, .data, .data, .data, .sentinel, .sentinel, .sentinel, .sentinel, .sentinel, .sentinel, .sentinel, .sentinel, .sentinel, .sentinel, .pinned], laidTests := true, laidLooks := .later }
def RefsStayUptoCardSaid : Prop := Claim7.holds Tryz.pinned (.plain (OpenSpec.upto refsStaySpec)) refsStayUptoCard
end Rows
end Go.Proofs.YtakainogpokhgaaGreatDoor
