/-
  DERIVED. GIVEN WITH THE SEED: THE CARDS: each row of YtlinembnfcdmcaaDoorRows.lean that lists a variable, with what it lists TIED to the program's text (the seventh form; the later family's looks); each row that meets fmt, with fmt's text TOLD by the authors' own Lean function (tested against real Go, not proved from fmt's source: count such statements apart). THE CARD IS WHAT COUNTS. Prove the row's statement (the work); the ties are given (YtlinembnfcdmcaaDoorTie.lean); close each card by the builder's one call (the guide's Derived/Test/ToyasCard.lean, 'card_holds'). Laid BY PROGRAM, IN A SANDBOX (cutbox-door.mjs). By AI agents, Wed Nov 11 2026. No macro, syntax, notation, axiom, sorry.
-/
import Derived.Test.YtlinembnfcdmcaaDoorRows
import GoSem.ClaimSeven
namespace Go.Proofs.YtlinembnfcdmcaaDoor
namespace Rows

/-- THE TIED CARD OF 'pointsmanlaw5.ReplayTells'. -/
def replayTellsCard : Claim7 := { stood := { row := replayTellsRow, standIns := [], harness := (true, "91d082c21651130fb7f46d8202e67b0558baf060d674e94038a8df378128814c"), looks := true }, kinds := [], alts := [], laidByText := true, laidKinds := [.handle], laidTests := true, laidLooks := .later }
def ReplayTellsCardSaid : Prop := Claim7.holds Tryd.pinned (.plain (OpenSpec.ofChange replayTellsSpec)) replayTellsCard

/-- THE TIED CARD OF 'pointsmanlaw5.JumpTells'. -/
def jumpTellsCard : Claim7 := { stood := { row := jumpTellsRow, standIns := [], harness := (true, "91d082c21651130fb7f46d8202e67b0558baf060d674e94038a8df378128814c"), looks := true }, kinds := [], alts := [], laidByText := true, laidKinds := [.handle], laidTests := true, laidLooks := .later }
def JumpTellsCardSaid : Prop := Claim7.holds Tryd.pinned (.plain (OpenSpec.ofChange jumpTellsSpec)) jumpTellsCard

/-- THE TIED CARD OF 'pointsmanlaw4.FrameTells'. -/
def frameTellsCard : Claim7 := { stood := { row := frameTellsRow, standIns := [], harness := (true, "91d082c21651130fb7f46d8202e67b0558baf060d674e94038a8df378128814c"), looks := true }, kinds := [], alts := [], laidByText := true, laidKinds := [.handle], laidTests := true, laidLooks := .later }
def FrameTellsCardSaid : Prop := Claim7.holds Tryd.pinned (.plain (OpenSpec.ofChange frameTellsSpec)) frameTellsCard

/-- THE TIED CARD OF 'pointsmanlaw3.HealthMirrors'. -/
def healthMirrorsCard : Claim7 := { stood := { row := healthMirrorsRow, standIns := [], harness := (true, "91d082c21651130fb7f46d8202e67b0558baf060d674e94038a8df378128814c"), looks := true }, kinds := [], alts := [], laidByText := true, laidKinds := [.handle], laidTests := true, laidLooks := .later }
def HealthMirrorsCardSaid : Prop := Claim7.holds Tryd.pinned (.plain (OpenSpec.ofChange healthMirrorsSpec)) healthMirrorsCard

/-- THE TIED CARD OF 'pointsmanlaw3.HealthTells'. -/
def healthTellsCard : Claim7 := { stood := { row := healthTellsRow, standIns := [], harness := (true, "91d082c21651130fb7f46d8202e67b0558baf060d674e94038a8df378128814c"), looks := true }, kinds := [], alts := [], laidByText := true, laidKinds := [.handle], laidTests := true, laidLooks := .later }
def HealthTellsCardSaid : Prop := Claim7.holds Tryd.pinned (.plain (OpenSpec.ofChange healthTellsSpec)) healthTellsCard

/-- THE TIED CARD OF 'pointsmanlaw3.WheelTells'. -/
def wheelTellsCard : Claim7 := { stood := { row := wheelTellsRow, standIns := [], harness := (true, "91d082c21651130fb7f46d8202e67b0558baf060d674e94038a8df378128814c"), looks := true }, kinds := [], alts := [], laidByText := true, laidKinds := [.handle], laidTests := true, laidLooks := .later }
def WheelTellsCardSaid : Prop := Claim7.holds Tryd.pinned (.plain (OpenSpec.ofChange wheelTellsSpec)) wheelTellsCard

/-- THE SECOND FORM's CARD OF 'pointsmanlaw5.ReplayTells'. -/
def replayTellsUptoCard : Claim7 := { stood := { row := replayTellsUptoRow, standIns := [], harness := (true, "91d082c21651130fb7f46d8202e67b0558baf060d674e94038a8df378128814c"), looks := true }, kinds := [], alts := [], laidByText := true, laidKinds := [.handle], laidTests := true, laidLooks := .later }
def ReplayTellsUptoCardSaid : Prop := Claim7.holds Tryd.pinned (.plain (OpenSpec.upto replayTellsSpec)) replayTellsUptoCard

/-- THE SECOND FORM's CARD OF 'pointsmanlaw5.JumpTells'. -/
def jumpTellsUptoCard : Claim7 := { stood := { row := jumpTellsUptoRow, standIns := [], harness := (true, "91d082c21651130fb7f46d8202e67b0558baf060d674e94038a8df378128814c"), looks := true }, kinds := [], alts := [], laidByText := true, laidKinds := [.handle], laidTests := true, laidLooks := .later }
def JumpTellsUptoCardSaid : Prop := Claim7.holds Tryd.pinned (.plain (OpenSpec.upto jumpTellsSpec)) jumpTellsUptoCard

/-- THE SECOND FORM's CARD OF 'pointsmanlaw4.FrameTells'. -/
def frameTellsUptoCard : Claim7 := { stood := { row := frameTellsUptoRow, standIns := [], harness := (true, "91d082c21651130fb7f46d8202e67b0558baf060d674e94038a8df378128814c"), looks := true }, kinds := [], alts := [], laidByText := true, laidKinds := [.handle], laidTests := true, laidLooks := .later }
def FrameTellsUptoCardSaid : Prop := Claim7.holds Tryd.pinned (.plain (OpenSpec.upto frameTellsSpec)) frameTellsUptoCard

/-- THE SECOND FORM's CARD OF 'pointsmanlaw3.HealthMirrors'. -/
def healthMirrorsUptoCard : Claim7 := { stood := { row := healthMirrorsUptoRow, standIns := [], harness := (true, "91d082c21651130fb7f46d8202e67b0558baf060d674e94038a8df378128814c"), looks := true }, kinds := [], alts := [], laidByText := true, laidKinds := [.handle], laidTests := true, laidLooks := .later }
def HealthMirrorsUptoCardSaid : Prop := Claim7.holds Tryd.pinned (.plain (OpenSpec.upto healthMirrorsSpec)) healthMirrorsUptoCard

/-- THE SECOND FORM's CARD OF 'pointsmanlaw3.HealthTells'. -/
def healthTellsUptoCard : Claim7 := { stood := { row := healthTellsUptoRow, standIns := [], harness := (true, "91d082c21651130fb7f46d8202e67b0558baf060d674e94038a8df378128814c"), looks := true }, kinds := [], alts := [], laidByText := true, laidKinds := [.handle], laidTests := true, laidLooks := .later }
def HealthTellsUptoCardSaid : Prop := Claim7.holds Tryd.pinned (.plain (OpenSpec.upto healthTellsSpec)) healthTellsUptoCard

/-- THE SECOND FORM's CARD OF 'pointsmanlaw3.WheelTells'. -/
def wheelTellsUptoCard : Claim7 := { stood := { row := wheelTellsUptoRow, standIns := [], harness := (true, "91d082c21651130fb7f46d8202e67b0558baf060d674e94038a8df378128814c"), looks := true }, kinds := [], alts := [], laidByText := true, laidKinds := [.handle], laidTests := true, laidLooks := .later }
def WheelTellsUptoCardSaid : Prop := Claim7.holds Tryd.pinned (.plain (OpenSpec.upto wheelTellsSpec)) wheelTellsUptoCard
end Rows
end Go.Proofs.YtlinembnfcdmcaaDoor
