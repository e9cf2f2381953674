/-
  No cell of these rows narrows 'for every input' (looked for: loops, veiled, ifaces, maps, wideKeys, modest, calm, conditions, laid).
  DERIVED. THE GIVEN ROWS OF THIS SEAT. 5 by the template 'for every input the law returns true; each argument reads behind the call as it read before'; 0 by the template 'total and deterministic' (their statements: YtlinembnfcdmcaaTotals.lean).
  GIVEN WITH THE SEED: the statements are not yours to turn. If you find one false, say at which input.
  Laid BY PROGRAM, IN A SANDBOX (cutbox-rows.mjs): the forced cells as the released guide's own fill.sh prints them over the translation 32d68b54bdabe4bf… (all of the seat's roots in one cut). By AI agents, Wed Nov 11 2026. No macro, syntax, notation, axiom, sorry.
-/
import Derived.Test.YtlinembnfcdmcaaChecked
import GoSem.Claim
import GoSem.ClaimJoined
import GoSem.ClaimMapViews
import Derived.JoinedTies
import Derived.KernelRfl
namespace Go.Proofs.Ytlinembnfcdmcaa
/- THE CELL 'sum', in the pinned program and in every row, IS THE sha256 OF THE DUMP (.gsa) THAT YtlinembnfcdmcaaProg.lean LOADS. Nothing in Lean hashes anything: it is a label: what it is worth is what the hold of that sum in a sandbox is worth. -/
noncomputable def Try.pinned : Pinned := { name := "ytlinembnfcdmcaa", sum := "32d68b54bdabe4bfbc022c0a9ff23694d43621921bbde9e0baa0dcb4da508422", checked := Try.checked }
namespace Rows
def none {H : Type} : Left H := { results := [], args := [] }

/-- 'pointsmanlaw5.JumpMore': WHATEVER THE INPUT: true; the input reads as it did. -/
def jumpMoreSpec : ChangeSpec := { name := "jumpMore", fn := fun _ => fun
  | [d1, d2, d3] => { results := [.lit (.bool true)], args := [d1, d2, d3] }
  | _ => none }
def jumpMoreRow : OpenClaim := { program := "ytlinembnfcdmcaa", sum := "32d68b54bdabe4bfbc022c0a9ff23694d43621921bbde9e0baa0dcb4da508422", func := "pointsman/pointsmanlaw5.JumpMore", spec := "jumpMore", apart := false }
def JumpMoreSaid : Prop := jumpMoreRow.holds Try.pinned (OpenSpec.ofChange jumpMoreSpec)

/-- ITS FALSE NEIGHBOUR: 'it returns false'. Refute it at one input. -/
def jumpMoreWrong : ChangeSpec := { name := "jumpMore", fn := fun _ => fun
  | [d1, d2, d3] => { results := [.lit (.bool false)], args := [d1, d2, d3] }
  | _ => none }
def JumpMoreWrongFalsely : Prop := jumpMoreRow.holds Try.pinned (OpenSpec.ofChange jumpMoreWrong)

/-- 'pointsmanlaw4.FramePieces': WHATEVER THE INPUT: true; the input reads as it did. -/
def framePiecesSpec : ChangeSpec := { name := "framePieces", fn := fun _ => fun
  | [d1, d2] => { results := [.lit (.bool true)], args := [d1, d2] }
  | _ => none }
def framePiecesRow : OpenClaim := { program := "ytlinembnfcdmcaa", sum := "32d68b54bdabe4bfbc022c0a9ff23694d43621921bbde9e0baa0dcb4da508422", func := "pointsman/pointsmanlaw4.FramePieces", spec := "framePieces", apart := false }
def FramePiecesSaid : Prop := framePiecesRow.holds Try.pinned (OpenSpec.ofChange framePiecesSpec)

/-- ITS FALSE NEIGHBOUR: 'it returns false'. Refute it at one input. -/
def framePiecesWrong : ChangeSpec := { name := "framePieces", fn := fun _ => fun
  | [d1, d2] => { results := [.lit (.bool false)], args := [d1, d2] }
  | _ => none }
def FramePiecesWrongFalsely : Prop := framePiecesRow.holds Try.pinned (OpenSpec.ofChange framePiecesWrong)

/-- 'pointsmanlaw3.HealthTurns': WHATEVER THE INPUT: true; the input reads as it did. -/
def healthTurnsSpec : ChangeSpec := { name := "healthTurns", fn := fun _ => fun
  | [d1, d2, d3, d4] => { results := [.lit (.bool true)], args := [d1, d2, d3, d4] }
  | _ => none }
def healthTurnsRow : OpenClaim := { program := "ytlinembnfcdmcaa", sum := "32d68b54bdabe4bfbc022c0a9ff23694d43621921bbde9e0baa0dcb4da508422", func := "pointsman/pointsmanlaw3.HealthTurns", spec := "healthTurns", apart := false }
def HealthTurnsSaid : Prop := healthTurnsRow.holds Try.pinned (OpenSpec.ofChange healthTurnsSpec)

/-- ITS FALSE NEIGHBOUR: 'it returns false'. Refute it at one input. -/
def healthTurnsWrong : ChangeSpec := { name := "healthTurns", fn := fun _ => fun
  | [d1, d2, d3, d4] => { results := [.lit (.bool false)], args := [d1, d2, d3, d4] }
  | _ => none }
def HealthTurnsWrongFalsely : Prop := healthTurnsRow.holds Try.pinned (OpenSpec.ofChange healthTurnsWrong)

/-- 'pointsmanlaw3.WheelScales': WHATEVER THE INPUT: true; the input reads as it did. -/
def wheelScalesSpec : ChangeSpec := { name := "wheelScales", fn := fun _ => fun
  | [d1, d2, d3] => { results := [.lit (.bool true)], args := [d1, d2, d3] }
  | _ => none }
def wheelScalesRow : OpenClaim := { program := "ytlinembnfcdmcaa", sum := "32d68b54bdabe4bfbc022c0a9ff23694d43621921bbde9e0baa0dcb4da508422", func := "pointsman/pointsmanlaw3.WheelScales", spec := "wheelScales", apart := false }
def WheelScalesSaid : Prop := wheelScalesRow.holds Try.pinned (OpenSpec.ofChange wheelScalesSpec)

/-- ITS FALSE NEIGHBOUR: 'it returns false'. Refute it at one input. -/
def wheelScalesWrong : ChangeSpec := { name := "wheelScales", fn := fun _ => fun
  | [d1, d2, d3] => { results := [.lit (.bool false)], args := [d1, d2, d3] }
  | _ => none }
def WheelScalesWrongFalsely : Prop := wheelScalesRow.holds Try.pinned (OpenSpec.ofChange wheelScalesWrong)

/-- 'pointsmanlaw3.WheelRound': WHATEVER THE INPUT: true; the input reads as it did. -/
def wheelRoundSpec : ChangeSpec := { name := "wheelRound", fn := fun _ => fun
  | [d1, d2] => { results := [.lit (.bool true)], args := [d1, d2] }
  | _ => none }
def wheelRoundRow : OpenClaim := { program := "ytlinembnfcdmcaa", sum := "32d68b54bdabe4bfbc022c0a9ff23694d43621921bbde9e0baa0dcb4da508422", func := "pointsman/pointsmanlaw3.WheelRound", spec := "wheelRound", apart := false }
def WheelRoundSaid : Prop := wheelRoundRow.holds Try.pinned (OpenSpec.ofChange wheelRoundSpec)

/-- ITS FALSE NEIGHBOUR: 'it returns false'. Refute it at one input. -/
def wheelRoundWrong : ChangeSpec := { name := "wheelRound", fn := fun _ => fun
  | [d1, d2] => { results := [.lit (.bool false)], args := [d1, d2] }
  | _ => none }
def WheelRoundWrongFalsely : Prop := wheelRoundRow.holds Try.pinned (OpenSpec.ofChange wheelRoundWrong)

/- THE SECOND FORM. 'bulk': how many values and letters a reading holds, each counted each time it is reached (what is shared counts as often as it is met; a slice's spare places count too). A statement '..UptoSaid' is the law's where the arguments, and the package variables that the reading takes, are together of bulk at most 1048576: NARROWER than '..Said'. Prove '..Said' where nothing that the law and all that it calls make is longer than what came in: it says more and counts as full. Else prove '..UptoSaid'. A law counts once. -/
mutual
def uptoBulk {H : Type} : DataW H → Nat
  | .lit (.string bytes) => bytes.length + 1
  | .lit _ => 1
  | .nil => 1
  | .ptr d => uptoBulk d + 1
  | .slice elems spare => uptoBulkAll elems + uptoBulkAll spare + 1
  | .agg parts => uptoBulkAll parts + 1
  | .iface _ d => uptoBulk d + 1
  | .map entries => uptoBulkEntries entries + 1
  | .held _ => 1
def uptoBulkAll {H : Type} : List (DataW H) → Nat
  | [] => 0
  | d :: r => uptoBulk d + uptoBulkAll r
def uptoBulkEntries {H : Type} : List (Lit × DataW H) → Nat
  | [] => 0
  | x :: r => uptoBulkEntry x + uptoBulkEntries r
def uptoBulkEntry {H : Type} : Lit × DataW H → Nat
  | (.string bytes, d) => bytes.length + uptoBulk d + 1
  | (_, d) => uptoBulk d + 1
 end
def uptoSmall : (H : Type) → List (DataW H) → Bool := fun _ ds => decide (uptoBulkAll ds ≤ 1048576)
def OpenSpec.upto (s : _root_.Go.ChangeSpec) : _root_.Go.OpenSpec := { _root_.Go.OpenSpec.ofChange s with cond := some uptoSmall }

/-- 'pointsmanlaw5.JumpMore', WHERE WHAT IT READS IS OF BULK AT MOST 1048576: true; the input reads as it did. -/
def jumpMoreUptoRow : OpenClaim := { program := "ytlinembnfcdmcaa", sum := "32d68b54bdabe4bfbc022c0a9ff23694d43621921bbde9e0baa0dcb4da508422", func := "pointsman/pointsmanlaw5.JumpMore", spec := "jumpMore", apart := false, narrowed := true }
def JumpMoreUptoSaid : Prop := jumpMoreUptoRow.holds Try.pinned (OpenSpec.upto jumpMoreSpec)

/-- 'pointsmanlaw4.FramePieces', WHERE WHAT IT READS IS OF BULK AT MOST 1048576: true; the input reads as it did. -/
def framePiecesUptoRow : OpenClaim := { program := "ytlinembnfcdmcaa", sum := "32d68b54bdabe4bfbc022c0a9ff23694d43621921bbde9e0baa0dcb4da508422", func := "pointsman/pointsmanlaw4.FramePieces", spec := "framePieces", apart := false, narrowed := true }
def FramePiecesUptoSaid : Prop := framePiecesUptoRow.holds Try.pinned (OpenSpec.upto framePiecesSpec)

/-- 'pointsmanlaw3.HealthTurns', WHERE WHAT IT READS IS OF BULK AT MOST 1048576: true; the input reads as it did. -/
def healthTurnsUptoRow : OpenClaim := { program := "ytlinembnfcdmcaa", sum := "32d68b54bdabe4bfbc022c0a9ff23694d43621921bbde9e0baa0dcb4da508422", func := "pointsman/pointsmanlaw3.HealthTurns", spec := "healthTurns", apart := false, narrowed := true }
def HealthTurnsUptoSaid : Prop := healthTurnsUptoRow.holds Try.pinned (OpenSpec.upto healthTurnsSpec)

/-- 'pointsmanlaw3.WheelScales', WHERE WHAT IT READS IS OF BULK AT MOST 1048576: true; the input reads as it did. -/
def wheelScalesUptoRow : OpenClaim := { program := "ytlinembnfcdmcaa", sum := "32d68b54bdabe4bfbc022c0a9ff23694d43621921bbde9e0baa0dcb4da508422", func := "pointsman/pointsmanlaw3.WheelScales", spec := "wheelScales", apart := false, narrowed := true }
def WheelScalesUptoSaid : Prop := wheelScalesUptoRow.holds Try.pinned (OpenSpec.upto wheelScalesSpec)

/-- 'pointsmanlaw3.WheelRound', WHERE WHAT IT READS IS OF BULK AT MOST 1048576: true; the input reads as it did. -/
def wheelRoundUptoRow : OpenClaim := { program := "ytlinembnfcdmcaa", sum := "32d68b54bdabe4bfbc022c0a9ff23694d43621921bbde9e0baa0dcb4da508422", func := "pointsman/pointsmanlaw3.WheelRound", spec := "wheelRound", apart := false, narrowed := true }
def WheelRoundUptoSaid : Prop := wheelRoundUptoRow.holds Try.pinned (OpenSpec.upto wheelRoundSpec)

end Rows
end Go.Proofs.Ytlinembnfcdmcaa
