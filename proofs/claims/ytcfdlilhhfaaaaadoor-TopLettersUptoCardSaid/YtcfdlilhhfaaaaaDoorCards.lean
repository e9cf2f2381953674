/-
  DERIVED. GIVEN WITH THE SEED: THE CARDS: each row of YtcfdlilhhfaaaaaDoorRows.lean that lists a variable, with what it lists TIED to the program's text (the seventh form; the later family's looks); each row that meets fmt, with fmt's text TOLD by the authors' own Lean function (tested against real Go, not proved from fmt's source: count such statements apart). THE CARD IS WHAT COUNTS. Prove the row's statement (the work); the ties are given (YtcfdlilhhfaaaaaDoorTie.lean); close each card by the builder's one call (the guide's Derived/Test/ToyasCard.lean, 'card_holds'). Laid BY PROGRAM, IN A SANDBOX (cutbox-door.mjs). By AI agents, Wed Nov 11 2026. No macro, syntax, notation, axiom, sorry.
-/
import Derived.Test.YtcfdlilhhfaaaaaDoorRows
import GoSem.ClaimSeven
namespace Go.Proofs.YtcfdlilhhfaaaaaDoor
namespace Rows

/-- THE TIED CARD OF 'pointsmanlaw4.CacheTells'. -/
def cacheTellsCard : Claim7 := { stood := { row := cacheTellsRow, standIns := [], harness := (true, "ef1015c49e3854b0acf9638ad905b1f5f21d1a2f6d7aba834d5303208216e874"), looks := true }, kinds := [], alts := [], laidByText := true, laidKinds := [.handle], laidTests := true, laidLooks := .later }
def CacheTellsCardSaid : Prop := Claim7.holds Tryd.pinned (.plain (OpenSpec.ofChange cacheTellsSpec)) cacheTellsCard

/-- THE TIED CARD OF 'pointsmantop.TopLetters'. -/
def topLettersCard : Claim7 := { stood := { row := topLettersRow, standIns := [], harness := (true, "ef1015c49e3854b0acf9638ad905b1f5f21d1a2f6d7aba834d5303208216e874"), looks := true }, kinds := [], alts := [], laidByText := true, laidKinds := [.handle], laidTests := true, laidLooks := .later }
def TopLettersCardSaid : Prop := Claim7.holds Tryd.pinned (.plain (OpenSpec.ofChange topLettersSpec)) topLettersCard

/-- THE SECOND FORM's CARD OF 'pointsmanlaw4.CacheTells'. -/
def cacheTellsUptoCard : Claim7 := { stood := { row := cacheTellsUptoRow, standIns := [], harness := (true, "ef1015c49e3854b0acf9638ad905b1f5f21d1a2f6d7aba834d5303208216e874"), looks := true }, kinds := [], alts := [], laidByText := true, laidKinds := [.handle], laidTests := true, laidLooks := .later }
def CacheTellsUptoCardSaid : Prop := Claim7.holds Tryd.pinned (.plain (OpenSpec.upto cacheTellsSpec)) cacheTellsUptoCard

/-- THE SECOND FORM's CARD OF 'pointsmantop.TopLetters'. -/
def topLettersUptoCard : Claim7 := { stood := { row := topLettersUptoRow, standIns := [], harness := (true, "ef1015c49e3854b0acf9638ad905b1f5f21d1a2f6d7aba834d5303208216e874"), looks := true }, kinds := [], alts := [], laidByText := true, laidKinds := [.handle], laidTests := true, laidLooks := .later }
def TopLettersUptoCardSaid : Prop := Claim7.holds Tryd.pinned (.plain (OpenSpec.upto topLettersSpec)) topLettersUptoCard
end Rows
end Go.Proofs.YtcfdlilhhfaaaaaDoor
