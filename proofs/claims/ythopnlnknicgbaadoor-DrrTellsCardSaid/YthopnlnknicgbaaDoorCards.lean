/-
  DERIVED. GIVEN WITH THE SEED: THE CARDS: each row of YthopnlnknicgbaaDoorRows.lean that lists a variable, with what it lists TIED to the program's text (the seventh form; the later family's looks); each row that meets fmt, with fmt's text TOLD by the authors' own Lean function (tested against real Go, not proved from fmt's source: count such statements apart). THE CARD IS WHAT COUNTS. Prove the row's statement (the work); the ties are given (YthopnlnknicgbaaDoorTie.lean); close each card by the builder's one call (the guide's Derived/Test/ToyasCard.lean, 'card_holds'). Laid BY PROGRAM, IN A SANDBOX (cutbox-door.mjs). By AI agents, Wed Nov 11 2026. No macro, syntax, notation, axiom, sorry.
-/
import Derived.Test.YthopnlnknicgbaaDoorRows
import GoSem.ClaimSeven
namespace Go.Proofs.YthopnlnknicgbaaDoor
namespace Rows

/-- THE TIED CARD OF 'pointsmanlaw3.LeastTells'. -/
def leastTellsCard : Claim7 := { stood := { row := leastTellsRow, standIns := [], harness := (true, "1e1840b1b55fbf2764a4577ae7dfbe2008295f993cae2655f1f02d6117da8106"), looks := true }, kinds := [], alts := [], laidByText := true, laidKinds := [.handle], laidTests := true, laidLooks := .later }
def LeastTellsCardSaid : Prop := Claim7.holds Tryd.pinned (.plain (OpenSpec.ofChange leastTellsSpec)) leastTellsCard

/-- THE TIED CARD OF 'pointsmanlaw4.FlightTells'. -/
def flightTellsCard : Claim7 := { stood := { row := flightTellsRow, standIns := [], harness := (true, "1e1840b1b55fbf2764a4577ae7dfbe2008295f993cae2655f1f02d6117da8106"), looks := true }, kinds := [], alts := [], laidByText := true, laidKinds := [.handle], laidTests := true, laidLooks := .later }
def FlightTellsCardSaid : Prop := Claim7.holds Tryd.pinned (.plain (OpenSpec.ofChange flightTellsSpec)) flightTellsCard

/-- THE TIED CARD OF 'pointsmanlaw4.FlightApart'. -/
def flightApartCard : Claim7 := { stood := { row := flightApartRow, standIns := [], harness := (true, "1e1840b1b55fbf2764a4577ae7dfbe2008295f993cae2655f1f02d6117da8106"), looks := true }, kinds := [], alts := [], laidByText := true, laidKinds := [.handle], laidTests := true, laidLooks := .later }
def FlightApartCardSaid : Prop := Claim7.holds Tryd.pinned (.plain (OpenSpec.ofChange flightApartSpec)) flightApartCard

/-- THE TIED CARD OF 'pointsmanlaw5.DrrTells'. -/
def drrTellsCard : Claim7 := { stood := { row := drrTellsRow, standIns := [], harness := (true, "1e1840b1b55fbf2764a4577ae7dfbe2008295f993cae2655f1f02d6117da8106"), looks := true }, kinds := [], alts := [], laidByText := true, laidKinds := [.handle], laidTests := true, laidLooks := .later }
def DrrTellsCardSaid : Prop := Claim7.holds Tryd.pinned (.plain (OpenSpec.ofChange drrTellsSpec)) drrTellsCard

/-- THE TIED CARD OF 'pointsmanlaw3.LruTells'. -/
def lruTellsCard : Claim7 := { stood := { row := lruTellsRow, standIns := [], harness := (true, "1e1840b1b55fbf2764a4577ae7dfbe2008295f993cae2655f1f02d6117da8106"), looks := true }, kinds := [], alts := [], laidByText := true, laidKinds := [.handle], laidTests := true, laidLooks := .later }
def LruTellsCardSaid : Prop := Claim7.holds Tryd.pinned (.plain (OpenSpec.ofChange lruTellsSpec)) lruTellsCard

/-- THE TIED CARD OF 'pointsmanlaw3.BestTells'. -/
def bestTellsCard : Claim7 := { stood := { row := bestTellsRow, standIns := [], harness := (true, "1e1840b1b55fbf2764a4577ae7dfbe2008295f993cae2655f1f02d6117da8106"), looks := true }, kinds := [], alts := [], laidByText := true, laidKinds := [.handle], laidTests := true, laidLooks := .later }
def BestTellsCardSaid : Prop := Claim7.holds Tryd.pinned (.plain (OpenSpec.ofChange bestTellsSpec)) bestTellsCard

/-- THE SECOND FORM's CARD OF 'pointsmanlaw3.LeastTells'. -/
def leastTellsUptoCard : Claim7 := { stood := { row := leastTellsUptoRow, standIns := [], harness := (true, "1e1840b1b55fbf2764a4577ae7dfbe2008295f993cae2655f1f02d6117da8106"), looks := true }, kinds := [], alts := [], laidByText := true, laidKinds := [.handle], laidTests := true, laidLooks := .later }
def LeastTellsUptoCardSaid : Prop := Claim7.holds Tryd.pinned (.plain (OpenSpec.upto leastTellsSpec)) leastTellsUptoCard

/-- THE SECOND FORM's CARD OF 'pointsmanlaw4.FlightTells'. -/
def flightTellsUptoCard : Claim7 := { stood := { row := flightTellsUptoRow, standIns := [], harness := (true, "1e1840b1b55fbf2764a4577ae7dfbe2008295f993cae2655f1f02d6117da8106"), looks := true }, kinds := [], alts := [], laidByText := true, laidKinds := [.handle], laidTests := true, laidLooks := .later }
def FlightTellsUptoCardSaid : Prop := Claim7.holds Tryd.pinned (.plain (OpenSpec.upto flightTellsSpec)) flightTellsUptoCard

/-- THE SECOND FORM's CARD OF 'pointsmanlaw4.FlightApart'. -/
def flightApartUptoCard : Claim7 := { stood := { row := flightApartUptoRow, standIns := [], harness := (true, "1e1840b1b55fbf2764a4577ae7dfbe2008295f993cae2655f1f02d6117da8106"), looks := true }, kinds := [], alts := [], laidByText := true, laidKinds := [.handle], laidTests := true, laidLooks := .later }
def FlightApartUptoCardSaid : Prop := Claim7.holds Tryd.pinned (.plain (OpenSpec.upto flightApartSpec)) flightApartUptoCard

/-- THE SECOND FORM's CARD OF 'pointsmanlaw5.DrrTells'. -/
def drrTellsUptoCard : Claim7 := { stood := { row := drrTellsUptoRow, standIns := [], harness := (true, "1e1840b1b55fbf2764a4577ae7dfbe2008295f993cae2655f1f02d6117da8106"), looks := true }, kinds := [], alts := [], laidByText := true, laidKinds := [.handle], laidTests := true, laidLooks := .later }
def DrrTellsUptoCardSaid : Prop := Claim7.holds Tryd.pinned (.plain (OpenSpec.upto drrTellsSpec)) drrTellsUptoCard

/-- THE SECOND FORM's CARD OF 'pointsmanlaw3.LruTells'. -/
def lruTellsUptoCard : Claim7 := { stood := { row := lruTellsUptoRow, standIns := [], harness := (true, "1e1840b1b55fbf2764a4577ae7dfbe2008295f993cae2655f1f02d6117da8106"), looks := true }, kinds := [], alts := [], laidByText := true, laidKinds := [.handle], laidTests := true, laidLooks := .later }
def LruTellsUptoCardSaid : Prop := Claim7.holds Tryd.pinned (.plain (OpenSpec.upto lruTellsSpec)) lruTellsUptoCard

/-- THE SECOND FORM's CARD OF 'pointsmanlaw3.BestTells'. -/
def bestTellsUptoCard : Claim7 := { stood := { row := bestTellsUptoRow, standIns := [], harness := (true, "1e1840b1b55fbf2764a4577ae7dfbe2008295f993cae2655f1f02d6117da8106"), looks := true }, kinds := [], alts := [], laidByText := true, laidKinds := [.handle], laidTests := true, laidLooks := .later }
def BestTellsUptoCardSaid : Prop := Claim7.holds Tryd.pinned (.plain (OpenSpec.upto bestTellsSpec)) bestTellsUptoCard
end Rows
end Go.Proofs.YthopnlnknicgbaaDoor
