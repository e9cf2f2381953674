/-
  DERIVED. GIVEN WITH THE SEED: THE CARDS: each row of YtkdmkpdooiacaaaDoorRows.lean that lists a variable, with what it lists TIED to the program's text (the seventh form; the later family's looks); each row that meets fmt, with fmt's text TOLD by the authors' own Lean function (tested against real Go, not proved from fmt's source: count such statements apart). THE CARD IS WHAT COUNTS. Prove the row's statement (the work); the ties are given (YtkdmkpdooiacaaaDoorTie.lean); close each card by the builder's one call (the guide's Derived/Test/ToyasCard.lean, 'card_holds'). Laid BY PROGRAM, IN A SANDBOX (cutbox-door.mjs). By AI agents, Wed Nov 11 2026. No macro, syntax, notation, axiom, sorry.
-/
import Derived.Test.YtkdmkpdooiacaaaDoorRows
import GoSem.ClaimSeven
namespace Go.Proofs.YtkdmkpdooiacaaaDoor
namespace Rows

/-- THE TIED CARD OF 'pointsmanlaw4.CacheTells'. -/
def cacheTellsCard : Claim7 := { stood := { row := cacheTellsRow, standIns := [], harness := (true, "d1ecff95d615541208f60236fbb906f80fa8a513b1391cb176224bee78aafa58"), looks := true }, kinds := [], alts := [], laidByText := true, laidKinds := [.handle], laidTests := true, laidLooks := .later }
def CacheTellsCardSaid : Prop := Claim7.holds Tryd.pinned (.plain (OpenSpec.ofChange cacheTellsSpec)) cacheTellsCard

/-- THE SECOND FORM's CARD OF 'pointsmanlaw4.CacheTells'. -/
def cacheTellsUptoCard : Claim7 := { stood := { row := cacheTellsUptoRow, standIns := [], harness := (true, "d1ecff95d615541208f60236fbb906f80fa8a513b1391cb176224bee78aafa58"), looks := true }, kinds := [], alts := [], laidByText := true, laidKinds := [.handle], laidTests := true, laidLooks := .later }
def CacheTellsUptoCardSaid : Prop := Claim7.holds Tryd.pinned (.plain (OpenSpec.upto cacheTellsSpec)) cacheTellsUptoCard
end Rows
end Go.Proofs.YtkdmkpdooiacaaaDoor
