/-
  DERIVED. GIVEN WITH THE SEED: THE CARDS: each row of YtbaiaolgjlhioaaDoorRows.lean that lists a variable, with what it lists TIED to the program's text (the seventh form; the later family's looks); each row that meets fmt, with fmt's text TOLD by the authors' own Lean function (tested against real Go, not proved from fmt's source: count such statements apart). THE CARD IS WHAT COUNTS. Prove the row's statement (the work); the ties are given (YtbaiaolgjlhioaaDoorTie.lean); close each card by the builder's one call (the guide's Derived/Test/ToyasCard.lean, 'card_holds'). Laid BY PROGRAM, IN A SANDBOX (cutbox-door.mjs). By AI agents, Wed Nov 11 2026. No macro, syntax, notation, axiom, sorry.
-/
import Derived.Test.YtbaiaolgjlhioaaDoorRows
import GoSem.ClaimSeven
namespace Go.Proofs.YtbaiaolgjlhioaaDoor
namespace Rows

/-- THE TIED CARD OF 'pointsmanlaw3.RendTells'. -/
def rendTellsCard : Claim7 := { stood := { row := rendTellsRow, standIns := [], harness := (true, "7ea5b802ac5efe0b65cbece6210c8bdbee55ef7d7741ab8e313298f31c925115"), looks := true }, kinds := [], alts := [], laidByText := true, laidKinds := [.handle], laidTests := true, laidLooks := .later }
def RendTellsCardSaid : Prop := Claim7.holds Tryd.pinned (.plain (OpenSpec.ofChange rendTellsSpec)) rendTellsCard

/-- THE TIED CARD OF 'pointsmanlaw3.RingTells'. -/
def ringTellsCard : Claim7 := { stood := { row := ringTellsRow, standIns := [], harness := (true, "7ea5b802ac5efe0b65cbece6210c8bdbee55ef7d7741ab8e313298f31c925115"), looks := true }, kinds := [], alts := [], laidByText := true, laidKinds := [.handle], laidTests := true, laidLooks := .later }
def RingTellsCardSaid : Prop := Claim7.holds Tryd.pinned (.plain (OpenSpec.ofChange ringTellsSpec)) ringTellsCard

/-- THE TIED CARD OF 'pointsmanlaw3.RingLess'. -/
def ringLessCard : Claim7 := { stood := { row := ringLessRow, standIns := [], harness := (true, "7ea5b802ac5efe0b65cbece6210c8bdbee55ef7d7741ab8e313298f31c925115"), looks := true }, kinds := [], alts := [], laidByText := true, laidKinds := [.handle], laidTests := true, laidLooks := .later }
def RingLessCardSaid : Prop := Claim7.holds Tryd.pinned (.plain (OpenSpec.ofChange ringLessSpec)) ringLessCard

/-- THE SECOND FORM's CARD OF 'pointsmanlaw3.RendTells'. -/
def rendTellsUptoCard : Claim7 := { stood := { row := rendTellsUptoRow, standIns := [], harness := (true, "7ea5b802ac5efe0b65cbece6210c8bdbee55ef7d7741ab8e313298f31c925115"), looks := true }, kinds := [], alts := [], laidByText := true, laidKinds := [.handle], laidTests := true, laidLooks := .later }
def RendTellsUptoCardSaid : Prop := Claim7.holds Tryd.pinned (.plain (OpenSpec.upto rendTellsSpec)) rendTellsUptoCard

/-- THE SECOND FORM's CARD OF 'pointsmanlaw3.RingTells'. -/
def ringTellsUptoCard : Claim7 := { stood := { row := ringTellsUptoRow, standIns := [], harness := (true, "7ea5b802ac5efe0b65cbece6210c8bdbee55ef7d7741ab8e313298f31c925115"), looks := true }, kinds := [], alts := [], laidByText := true, laidKinds := [.handle], laidTests := true, laidLooks := .later }
def RingTellsUptoCardSaid : Prop := Claim7.holds Tryd.pinned (.plain (OpenSpec.upto ringTellsSpec)) ringTellsUptoCard

/-- THE SECOND FORM's CARD OF 'pointsmanlaw3.RingLess'. -/
def ringLessUptoCard : Claim7 := { stood := { row := ringLessUptoRow, standIns := [], harness := (true, "7ea5b802ac5efe0b65cbece6210c8bdbee55ef7d7741ab8e313298f31c925115"), looks := true }, kinds := [], alts := [], laidByText := true, laidKinds := [.handle], laidTests := true, laidLooks := .later }
def RingLessUptoCardSaid : Prop := Claim7.holds Tryd.pinned (.plain (OpenSpec.upto ringLessSpec)) ringLessUptoCard
end Rows
end Go.Proofs.YtbaiaolgjlhioaaDoor
