/-
  DERIVED. GIVEN WITH THE SEED: THE CARDS: each row of YtgpfkaiinbncnaaDoorRows.lean that lists a variable, with what it lists TIED to the program's text (the seventh form; the later family's looks); each row that meets fmt, with fmt's text TOLD by the authors' own Lean function (tested against real Go, not proved from fmt's source: count such statements apart). THE CARD IS WHAT COUNTS. Prove the row's statement (the work); the ties are given (YtgpfkaiinbncnaaDoorTie.lean); close each card by the builder's one call (the guide's Derived/Test/ToyasCard.lean, 'card_holds'). Laid BY PROGRAM, IN A SANDBOX (cutbox-door.mjs). By AI agents, Wed Nov 11 2026. No macro, syntax, notation, axiom, sorry.
-/
import Derived.Test.YtgpfkaiinbncnaaDoorRows
import GoSem.ClaimSeven
namespace Go.Proofs.YtgpfkaiinbncnaaDoor
namespace Rows

/-- THE TIED CARD OF 'pointsmanlaw5.SketchTells'. -/
def sketchTellsCard : Claim7 := { stood := { row := sketchTellsRow, standIns := [], harness := (true, "23b4ce13b651f04983584b73dfdfc8f5dbaf799b89b26f855cc9b41d8d0d21e1"), looks := true }, kinds := [], alts := [], laidByText := true, laidKinds := [.handle], laidTests := true, laidLooks := .later }
def SketchTellsCardSaid : Prop := Claim7.holds Tryd.pinned (.plain (OpenSpec.ofChange sketchTellsSpec)) sketchTellsCard

/-- THE TIED CARD OF 'pointsmanlaw4.TallyTells'. -/
def tallyTellsCard : Claim7 := { stood := { row := tallyTellsRow, standIns := [], harness := (true, "23b4ce13b651f04983584b73dfdfc8f5dbaf799b89b26f855cc9b41d8d0d21e1"), looks := true }, kinds := [], alts := [], laidByText := true, laidKinds := [.handle], laidTests := true, laidLooks := .later }
def TallyTellsCardSaid : Prop := Claim7.holds Tryd.pinned (.plain (OpenSpec.ofChange tallyTellsSpec)) tallyTellsCard

/-- THE TIED CARD OF 'pointsmanlaw5.HeavyTells'. -/
def heavyTellsCard : Claim7 := { stood := { row := heavyTellsRow, standIns := [], harness := (true, "23b4ce13b651f04983584b73dfdfc8f5dbaf799b89b26f855cc9b41d8d0d21e1"), looks := true }, kinds := [], alts := [], laidByText := true, laidKinds := [.handle], laidTests := true, laidLooks := .later }
def HeavyTellsCardSaid : Prop := Claim7.holds Tryd.pinned (.plain (OpenSpec.ofChange heavyTellsSpec)) heavyTellsCard

/-- THE TIED CARD OF 'pointsmanlaw3.ChainTells'. -/
def chainTellsCard : Claim7 := { stood := { row := chainTellsRow, standIns := [], harness := (true, "23b4ce13b651f04983584b73dfdfc8f5dbaf799b89b26f855cc9b41d8d0d21e1"), looks := true }, kinds := [], alts := [], laidByText := true, laidKinds := [.handle], laidTests := true, laidLooks := .later }
def ChainTellsCardSaid : Prop := Claim7.holds Tryd.pinned (.plain (OpenSpec.ofChange chainTellsSpec)) chainTellsCard

/-- THE SECOND FORM's CARD OF 'pointsmanlaw5.SketchTells'. -/
def sketchTellsUptoCard : Claim7 := { stood := { row := sketchTellsUptoRow, standIns := [], harness := (true, "23b4ce13b651f04983584b73dfdfc8f5dbaf799b89b26f855cc9b41d8d0d21e1"), looks := true }, kinds := [], alts := [], laidByText := true, laidKinds := [.handle], laidTests := true, laidLooks := .later }
def SketchTellsUptoCardSaid : Prop := Claim7.holds Tryd.pinned (.plain (OpenSpec.upto sketchTellsSpec)) sketchTellsUptoCard

/-- THE SECOND FORM's CARD OF 'pointsmanlaw4.TallyTells'. -/
def tallyTellsUptoCard : Claim7 := { stood := { row := tallyTellsUptoRow, standIns := [], harness := (true, "23b4ce13b651f04983584b73dfdfc8f5dbaf799b89b26f855cc9b41d8d0d21e1"), looks := true }, kinds := [], alts := [], laidByText := true, laidKinds := [.handle], laidTests := true, laidLooks := .later }
def TallyTellsUptoCardSaid : Prop := Claim7.holds Tryd.pinned (.plain (OpenSpec.upto tallyTellsSpec)) tallyTellsUptoCard

/-- THE SECOND FORM's CARD OF 'pointsmanlaw5.HeavyTells'. -/
def heavyTellsUptoCard : Claim7 := { stood := { row := heavyTellsUptoRow, standIns := [], harness := (true, "23b4ce13b651f04983584b73dfdfc8f5dbaf799b89b26f855cc9b41d8d0d21e1"), looks := true }, kinds := [], alts := [], laidByText := true, laidKinds := [.handle], laidTests := true, laidLooks := .later }
def HeavyTellsUptoCardSaid : Prop := Claim7.holds Tryd.pinned (.plain (OpenSpec.upto heavyTellsSpec)) heavyTellsUptoCard

/-- THE SECOND FORM's CARD OF 'pointsmanlaw3.ChainTells'. -/
def chainTellsUptoCard : Claim7 := { stood := { row := chainTellsUptoRow, standIns := [], harness := (true, "23b4ce13b651f04983584b73dfdfc8f5dbaf799b89b26f855cc9b41d8d0d21e1"), looks := true }, kinds := [], alts := [], laidByText := true, laidKinds := [.handle], laidTests := true, laidLooks := .later }
def ChainTellsUptoCardSaid : Prop := Claim7.holds Tryd.pinned (.plain (OpenSpec.upto chainTellsSpec)) chainTellsUptoCard
end Rows
end Go.Proofs.YtgpfkaiinbncnaaDoor
