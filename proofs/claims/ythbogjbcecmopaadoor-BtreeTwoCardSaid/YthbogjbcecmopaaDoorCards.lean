/-
  DERIVED. GIVEN WITH THE SEED: THE CARDS: each row of YthbogjbcecmopaaDoorRows.lean that lists a variable, with what it lists TIED to the program's text (the seventh form; the later family's looks); each row that meets fmt, with fmt's text TOLD by the authors' own Lean function (tested against real Go, not proved from fmt's source: count such statements apart). THE CARD IS WHAT COUNTS. Prove the row's statement (the work); the ties are given (YthbogjbcecmopaaDoorTie.lean); close each card by the builder's one call (the guide's Derived/Test/ToyasCard.lean, 'card_holds'). Laid BY PROGRAM, IN A SANDBOX (cutbox-door.mjs). By AI agents, Wed Nov 11 2026. No macro, syntax, notation, axiom, sorry.
-/
import Derived.Test.YthbogjbcecmopaaDoorRows
import GoSem.ClaimSeven
namespace Go.Proofs.YthbogjbcecmopaaDoor
namespace Rows

/-- THE TIED CARD OF 'strongroomlaw15.BtreeEmpty'. -/
def btreeEmptyCard : Claim7 := { stood := { row := btreeEmptyRow, standIns := [], harness := (true, "d13a04189f45a636ff1ed914f98e24187893d9520986991d4f9b8db0ff89c484"), looks := false }, kinds := [], alts := [], laidByText := true, laidKinds := [.data, .pinned], laidTests := true, laidLooks := .later }
def BtreeEmptyCardSaid : Prop := Claim7.holds Tryd.pinned (.plain (OpenSpec.ofChange btreeEmptySpec)) btreeEmptyCard

/-- THE TIED CARD OF 'strongroomlaw15.BtreeTwo'. -/
def btreeTwoCard : Claim7 := { stood := { row := btreeTwoRow, standIns := [], harness := (true, "d13a04189f45a636ff1ed914f98e24187893d9520986991d4f9b8db0ff89c484"), looks := false }, kinds := [], alts := [], laidByText := true, laidKinds := [.data, .pinned], laidTests := true, laidLooks := .later }
def BtreeTwoCardSaid : Prop := Claim7.holds Tryd.pinned (.plain (OpenSpec.ofChange btreeTwoSpec)) btreeTwoCard

/-- THE SECOND FORM's CARD OF 'strongroomlaw15.BtreeEmpty'. -/
def btreeEmptyUptoCard : Claim7 := { stood := { row := btreeEmptyUptoRow, standIns := [], harness := (true, "d13a04189f45a636ff1ed914f98e24187893d9520986991d4f9b8db0ff89c484"), looks := false }, kinds := [], alts := [], laidByText := true, laidKinds := [.data, .pinned], laidTests := true, laidLooks := .later }
def BtreeEmptyUptoCardSaid : Prop := Claim7.holds Tryd.pinned (.plain (OpenSpec.upto btreeEmptySpec)) btreeEmptyUptoCard

/-- THE SECOND FORM's CARD OF 'strongroomlaw15.BtreeTwo'. -/
def btreeTwoUptoCard : Claim7 := { stood := { row := btreeTwoUptoRow, standIns := [], harness := (true, "d13a04189f45a636ff1ed914f98e24187893d9520986991d4f9b8db0ff89c484"), looks := false }, kinds := [], alts := [], laidByText := true, laidKinds := [.data, .pinned], laidTests := true, laidLooks := .later }
def BtreeTwoUptoCardSaid : Prop := Claim7.holds Tryd.pinned (.plain (OpenSpec.upto btreeTwoSpec)) btreeTwoUptoCard
end Rows
end Go.Proofs.YthbogjbcecmopaaDoor
