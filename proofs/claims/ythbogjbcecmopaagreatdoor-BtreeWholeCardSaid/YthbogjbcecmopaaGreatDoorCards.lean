/-
  DERIVED. GIVEN WITH THE SEED: THE CARDS: each row of YthbogjbcecmopaaGreatDoorRows.lean that lists a variable, with what it lists TIED to the program's text (the seventh form; the later family's looks); each row that meets fmt, with fmt's text TOLD by the authors' own Lean function (tested against real Go, not proved from fmt's source: count such statements apart). THE CARD IS WHAT COUNTS. Prove the row's statement (the work); the ties are given (YthbogjbcecmopaaGreatDoorTie.lean); close each card by the builder's one call (the guide's Derived/Test/ToyasCard.lean, 'card_holds'). Laid BY PROGRAM, IN A SANDBOX (cutbox-door.mjs). By AI agents, Wed Nov 11 2026. No macro, syntax, notation, axiom, sorry.
-/
import Derived.Test.YthbogjbcecmopaaGreatDoorRows
import GoSem.ClaimSeven
namespace Go.Proofs.YthbogjbcecmopaaGreatDoor
namespace Rows

/-- THE TIED CARD OF 'strongroomlaw15.BtreeReads'. -/
def btreeReadsCard : Claim7 := { stood := { row := btreeReadsRow, standIns := [], harness := (true, "88b840c6857e141b8992512d7463ed0858dbf39f2fe20160b127cdf65cb1e027"), looks := true }, kinds := [], alts := [], laidByText := true, laidKinds := [.data, .pinned], laidTests := true, laidLooks := .later }
def BtreeReadsCardSaid : Prop := Claim7.holds Tryz.pinned (.plain (OpenSpec.ofChange btreeReadsSpec)) btreeReadsCard

/-- THE TIED CARD OF 'strongroomlaw15.BtreeNils'. -/
def btreeNilsCard : Claim7 := { stood := { row := btreeNilsRow, standIns := [], harness := (true, "88b840c6857e141b8992512d7463ed0858dbf39f2fe20160b127cdf65cb1e027"), looks := true }, kinds := [], alts := [], laidByText := true, laidKinds := [.data, .pinned], laidTests := true, laidLooks := .later }
def BtreeNilsCardSaid : Prop := Claim7.holds Tryz.pinned (.plain (OpenSpec.ofChange btreeNilsSpec)) btreeNilsCard

/-- THE TIED CARD OF 'strongroomlaw15.BtreeWhole'. -/
def btreeWholeCard : Claim7 := { stood := { row := btreeWholeRow, standIns := [], harness := (true, "88b840c6857e141b8992512d7463ed0858dbf39f2fe20160b127cdf65cb1e027"), looks := true }, kinds := [], alts := [], laidByText := true, laidKinds := [.data, .pinned], laidTests := true, laidLooks := .later }
def BtreeWholeCardSaid : Prop := Claim7.holds Tryz.pinned (.plain (OpenSpec.ofChange btreeWholeSpec)) btreeWholeCard

/-- THE TIED CARD OF 'strongroomlaw15.BtreePlays'. -/
def btreePlaysCard : Claim7 := { stood := { row := btreePlaysRow, standIns := [], harness := (true, "88b840c6857e141b8992512d7463ed0858dbf39f2fe20160b127cdf65cb1e027"), looks := true }, kinds := [], alts := [], laidByText := true, laidKinds := [.data, .pinned], laidTests := true, laidLooks := .later }
def BtreePlaysCardSaid : Prop := Claim7.holds Tryz.pinned (.plain (OpenSpec.ofChange btreePlaysSpec)) btreePlaysCard

/-- THE SECOND FORM's CARD OF 'strongroomlaw15.BtreeReads'. -/
def btreeReadsUptoCard : Claim7 := { stood := { row := btreeReadsUptoRow, standIns := [], harness := (true, "88b840c6857e141b8992512d7463ed0858dbf39f2fe20160b127cdf65cb1e027"), looks := true }, kinds := [], alts := [], laidByText := true, laidKinds := [.data, .pinned], laidTests := true, laidLooks := .later }
def BtreeReadsUptoCardSaid : Prop := Claim7.holds Tryz.pinned (.plain (OpenSpec.upto btreeReadsSpec)) btreeReadsUptoCard

/-- THE SECOND FORM's CARD OF 'strongroomlaw15.BtreeNils'. -/
def btreeNilsUptoCard : Claim7 := { stood := { row := btreeNilsUptoRow, standIns := [], harness := (true, "88b840c6857e141b8992512d7463ed0858dbf39f2fe20160b127cdf65cb1e027"), looks := true }, kinds := [], alts := [], laidByText := true, laidKinds := [.data, .pinned], laidTests := true, laidLooks := .later }
def BtreeNilsUptoCardSaid : Prop := Claim7.holds Tryz.pinned (.plain (OpenSpec.upto btreeNilsSpec)) btreeNilsUptoCard

/-- THE SECOND FORM's CARD OF 'strongroomlaw15.BtreeWhole'. -/
def btreeWholeUptoCard : Claim7 := { stood := { row := btreeWholeUptoRow, standIns := [], harness := (true, "88b840c6857e141b8992512d7463ed0858dbf39f2fe20160b127cdf65cb1e027"), looks := true }, kinds := [], alts := [], laidByText := true, laidKinds := [.data, .pinned], laidTests := true, laidLooks := .later }
def BtreeWholeUptoCardSaid : Prop := Claim7.holds Tryz.pinned (.plain (OpenSpec.upto btreeWholeSpec)) btreeWholeUptoCard

/-- THE SECOND FORM's CARD OF 'strongroomlaw15.BtreePlays'. -/
def btreePlaysUptoCard : Claim7 := { stood := { row := btreePlaysUptoRow, standIns := [], harness := (true, "88b840c6857e141b8992512d7463ed0858dbf39f2fe20160b127cdf65cb1e027"), looks := true }, kinds := [], alts := [], laidByText := true, laidKinds := [.data, .pinned], laidTests := true, laidLooks := .later }
def BtreePlaysUptoCardSaid : Prop := Claim7.holds Tryz.pinned (.plain (OpenSpec.upto btreePlaysSpec)) btreePlaysUptoCard
end Rows
end Go.Proofs.YthbogjbcecmopaaGreatDoor
