/-
  No cell of these rows narrows 'for every input' (looked for: loops, veiled, ifaces, maps, wideKeys, modest, calm, conditions, laid).
  DERIVED. THE GIVEN ROWS OF THIS SEAT. 8 by the template 'for every input the law returns true; each argument reads behind the call as it read before'; 0 by the template 'total and deterministic' (their statements: YtgpfkaiinbncnaaTotals.lean).
  GIVEN WITH THE SEED: the statements are not yours to turn. If you find one false, say at which input.
  Laid BY PROGRAM, IN A SANDBOX (cutbox-rows.mjs): the forced cells as the released guide's own fill.sh prints them over the translation 14ef6e480c2f738c… (all of the seat's roots in one cut). By AI agents, Wed Nov 11 2026. No macro, syntax, notation, axiom, sorry.
-/
import Derived.Test.YtgpfkaiinbncnaaChecked
import GoSem.Claim
import GoSem.ClaimJoined
import GoSem.ClaimMapViews
import Derived.JoinedTies
import Derived.KernelRfl
namespace Go.Proofs.Ytgpfkaiinbncnaa
/- THE CELL 'sum', in the pinned program and in every row, IS THE sha256 OF THE DUMP (.gsa) THAT YtgpfkaiinbncnaaProg.lean LOADS. Nothing in Lean hashes anything: it is a label: what it is worth is what the hold of that sum in a sandbox is worth. -/
noncomputable def Try.pinned : Pinned := { name := "ytgpfkaiinbncnaa", sum := "14ef6e480c2f738cfc960d1fc098d2acd7ee986829ec7b4a69d57061a39b3cbc", checked := Try.checked }
namespace Rows
def none {H : Type} : Left H := { results := [], args := [] }

/-- 'pointsmanlaw5.SketchOver': WHATEVER THE INPUT: true; the input reads as it did. -/
def sketchOverSpec : ChangeSpec := { name := "sketchOver", fn := fun _ => fun
  | [d1, d2, d3, d4] => { results := [.lit (.bool true)], args := [d1, d2, d3, d4] }
  | _ => none }
def sketchOverRow : OpenClaim := { program := "ytgpfkaiinbncnaa", sum := "14ef6e480c2f738cfc960d1fc098d2acd7ee986829ec7b4a69d57061a39b3cbc", func := "pointsman/pointsmanlaw5.SketchOver", spec := "sketchOver", unfollowed := true, recurses := true, apart := false }
def SketchOverSaid : Prop := sketchOverRow.holds Try.pinned (OpenSpec.ofChange sketchOverSpec)

/-- ITS FALSE NEIGHBOUR: 'it returns false'. Refute it at one input. -/
def sketchOverWrong : ChangeSpec := { name := "sketchOver", fn := fun _ => fun
  | [d1, d2, d3, d4] => { results := [.lit (.bool false)], args := [d1, d2, d3, d4] }
  | _ => none }
def SketchOverWrongFalsely : Prop := sketchOverRow.holds Try.pinned (OpenSpec.ofChange sketchOverWrong)

/-- 'pointsmanlaw5.SketchJoins': WHATEVER THE INPUT: true; the input reads as it did. -/
def sketchJoinsSpec : ChangeSpec := { name := "sketchJoins", fn := fun _ => fun
  | [d1, d2, d3, d4] => { results := [.lit (.bool true)], args := [d1, d2, d3, d4] }
  | _ => none }
def sketchJoinsRow : OpenClaim := { program := "ytgpfkaiinbncnaa", sum := "14ef6e480c2f738cfc960d1fc098d2acd7ee986829ec7b4a69d57061a39b3cbc", func := "pointsman/pointsmanlaw5.SketchJoins", spec := "sketchJoins", unfollowed := true, recurses := true, apart := false }
def SketchJoinsSaid : Prop := sketchJoinsRow.holds Try.pinned (OpenSpec.ofChange sketchJoinsSpec)

/-- ITS FALSE NEIGHBOUR: 'it returns false'. Refute it at one input. -/
def sketchJoinsWrong : ChangeSpec := { name := "sketchJoins", fn := fun _ => fun
  | [d1, d2, d3, d4] => { results := [.lit (.bool false)], args := [d1, d2, d3, d4] }
  | _ => none }
def SketchJoinsWrongFalsely : Prop := sketchJoinsRow.holds Try.pinned (OpenSpec.ofChange sketchJoinsWrong)

/-- 'pointsmanlaw4.TallyBounds': WHATEVER THE INPUT: true; the input reads as it did. -/
def tallyBoundsSpec : ChangeSpec := { name := "tallyBounds", fn := fun _ => fun
  | [d1, d2] => { results := [.lit (.bool true)], args := [d1, d2] }
  | _ => none }
def tallyBoundsRow : OpenClaim := { program := "ytgpfkaiinbncnaa", sum := "14ef6e480c2f738cfc960d1fc098d2acd7ee986829ec7b4a69d57061a39b3cbc", func := "pointsman/pointsmanlaw4.TallyBounds", spec := "tallyBounds", unfollowed := true, recurses := true, apart := false }
def TallyBoundsSaid : Prop := tallyBoundsRow.holds Try.pinned (OpenSpec.ofChange tallyBoundsSpec)

/-- ITS FALSE NEIGHBOUR: 'it returns false'. Refute it at one input. -/
def tallyBoundsWrong : ChangeSpec := { name := "tallyBounds", fn := fun _ => fun
  | [d1, d2] => { results := [.lit (.bool false)], args := [d1, d2] }
  | _ => none }
def TallyBoundsWrongFalsely : Prop := tallyBoundsRow.holds Try.pinned (OpenSpec.ofChange tallyBoundsWrong)

/-- 'pointsmanlaw4.TallyMore': WHATEVER THE INPUT: true; the input reads as it did. -/
def tallyMoreSpec : ChangeSpec := { name := "tallyMore", fn := fun _ => fun
  | [d1, d2, d3, d4] => { results := [.lit (.bool true)], args := [d1, d2, d3, d4] }
  | _ => none }
def tallyMoreRow : OpenClaim := { program := "ytgpfkaiinbncnaa", sum := "14ef6e480c2f738cfc960d1fc098d2acd7ee986829ec7b4a69d57061a39b3cbc", func := "pointsman/pointsmanlaw4.TallyMore", spec := "tallyMore", unfollowed := true, recurses := true, apart := false }
def TallyMoreSaid : Prop := tallyMoreRow.holds Try.pinned (OpenSpec.ofChange tallyMoreSpec)

/-- ITS FALSE NEIGHBOUR: 'it returns false'. Refute it at one input. -/
def tallyMoreWrong : ChangeSpec := { name := "tallyMore", fn := fun _ => fun
  | [d1, d2, d3, d4] => { results := [.lit (.bool false)], args := [d1, d2, d3, d4] }
  | _ => none }
def TallyMoreWrongFalsely : Prop := tallyMoreRow.holds Try.pinned (OpenSpec.ofChange tallyMoreWrong)

/-- 'pointsmanlaw4.TallyJoins': WHATEVER THE INPUT: true; the input reads as it did. -/
def tallyJoinsSpec : ChangeSpec := { name := "tallyJoins", fn := fun _ => fun
  | [d1, d2] => { results := [.lit (.bool true)], args := [d1, d2] }
  | _ => none }
def tallyJoinsRow : OpenClaim := { program := "ytgpfkaiinbncnaa", sum := "14ef6e480c2f738cfc960d1fc098d2acd7ee986829ec7b4a69d57061a39b3cbc", func := "pointsman/pointsmanlaw4.TallyJoins", spec := "tallyJoins", unfollowed := true, recurses := true, apart := false }
def TallyJoinsSaid : Prop := tallyJoinsRow.holds Try.pinned (OpenSpec.ofChange tallyJoinsSpec)

/-- ITS FALSE NEIGHBOUR: 'it returns false'. Refute it at one input. -/
def tallyJoinsWrong : ChangeSpec := { name := "tallyJoins", fn := fun _ => fun
  | [d1, d2] => { results := [.lit (.bool false)], args := [d1, d2] }
  | _ => none }
def TallyJoinsWrongFalsely : Prop := tallyJoinsRow.holds Try.pinned (OpenSpec.ofChange tallyJoinsWrong)

/-- 'pointsmanlaw5.HeavyBound': WHATEVER THE INPUT: true; the input reads as it did. -/
def heavyBoundSpec : ChangeSpec := { name := "heavyBound", fn := fun _ => fun
  | [d1, d2] => { results := [.lit (.bool true)], args := [d1, d2] }
  | _ => none }
def heavyBoundRow : OpenClaim := { program := "ytgpfkaiinbncnaa", sum := "14ef6e480c2f738cfc960d1fc098d2acd7ee986829ec7b4a69d57061a39b3cbc", func := "pointsman/pointsmanlaw5.HeavyBound", spec := "heavyBound", unfollowed := true, recurses := true, apart := false }
def HeavyBoundSaid : Prop := heavyBoundRow.holds Try.pinned (OpenSpec.ofChange heavyBoundSpec)

/-- ITS FALSE NEIGHBOUR: 'it returns false'. Refute it at one input. -/
def heavyBoundWrong : ChangeSpec := { name := "heavyBound", fn := fun _ => fun
  | [d1, d2] => { results := [.lit (.bool false)], args := [d1, d2] }
  | _ => none }
def HeavyBoundWrongFalsely : Prop := heavyBoundRow.holds Try.pinned (OpenSpec.ofChange heavyBoundWrong)

/-- 'pointsmanlaw3.ChainFirst': WHATEVER THE INPUT: true; the input reads as it did. -/
def chainFirstSpec : ChangeSpec := { name := "chainFirst", fn := fun _ => fun
  | [d1, d2, d3, d4] => { results := [.lit (.bool true)], args := [d1, d2, d3, d4] }
  | _ => none }
def chainFirstRow : OpenClaim := { program := "ytgpfkaiinbncnaa", sum := "14ef6e480c2f738cfc960d1fc098d2acd7ee986829ec7b4a69d57061a39b3cbc", func := "pointsman/pointsmanlaw3.ChainFirst", spec := "chainFirst", unfollowed := true, recurses := true, apart := false }
def ChainFirstSaid : Prop := chainFirstRow.holds Try.pinned (OpenSpec.ofChange chainFirstSpec)

/-- ITS FALSE NEIGHBOUR: 'it returns false'. Refute it at one input. -/
def chainFirstWrong : ChangeSpec := { name := "chainFirst", fn := fun _ => fun
  | [d1, d2, d3, d4] => { results := [.lit (.bool false)], args := [d1, d2, d3, d4] }
  | _ => none }
def ChainFirstWrongFalsely : Prop := chainFirstRow.holds Try.pinned (OpenSpec.ofChange chainFirstWrong)

/-- 'pointsmanlaw3.ChainSwaps': WHATEVER THE INPUT: true; the input reads as it did. -/
def chainSwapsSpec : ChangeSpec := { name := "chainSwaps", fn := fun _ => fun
  | [d1, d2, d3, d4] => { results := [.lit (.bool true)], args := [d1, d2, d3, d4] }
  | _ => none }
def chainSwapsRow : OpenClaim := { program := "ytgpfkaiinbncnaa", sum := "14ef6e480c2f738cfc960d1fc098d2acd7ee986829ec7b4a69d57061a39b3cbc", func := "pointsman/pointsmanlaw3.ChainSwaps", spec := "chainSwaps", unfollowed := true, recurses := true, apart := false }
def ChainSwapsSaid : Prop := chainSwapsRow.holds Try.pinned (OpenSpec.ofChange chainSwapsSpec)

/-- ITS FALSE NEIGHBOUR: 'it returns false'. Refute it at one input. -/
def chainSwapsWrong : ChangeSpec := { name := "chainSwaps", fn := fun _ => fun
  | [d1, d2, d3, d4] => { results := [.lit (.bool false)], args := [d1, d2, d3, d4] }
  | _ => none }
def ChainSwapsWrongFalsely : Prop := chainSwapsRow.holds Try.pinned (OpenSpec.ofChange chainSwapsWrong)

/- THE SECOND FORM. 'bulk': how many values and letters a reading holds, each counted each time it is reached (what is shared counts as often as it is met; a slice's spare places count too). A statement '..UptoSaid' is the law's where the arguments, and the package variables that the reading takes, are together of bulk at most 1048576: NARROWER than '..Said'. Prove '..Said' where nothing that the law and all that it calls make is longer than what came in: it says more and counts as full. Else prove '..UptoSaid'. A law counts once. -/
mutual
def uptoBulk {H : Type} : DataW H → Nat
  | .lit (.string bytes) => bytes.length + 1
  | .lit _ => 1
  | .nil => 1
  | .ptr d => uptoBulk d + 1
  | .slice elems spare => uptoBulkAll elems + uptoBulkAll spare + 1
  | .agg parts => uptoBulkAll parts + 1
  | .iface _ d => uptoBulk d + 1
  | .map entries => uptoBulkEntries entries + 1
  | .held _ => 1
def uptoBulkAll {H : Type} : List (DataW H) → Nat
  | [] => 0
  | d :: r => uptoBulk d + uptoBulkAll r
def uptoBulkEntries {H : Type} : List (Lit × DataW H) → Nat
  | [] => 0
  | x :: r => uptoBulkEntry x + uptoBulkEntries r
def uptoBulkEntry {H : Type} : Lit × DataW H → Nat
  | (.string bytes, d) => bytes.length + uptoBulk d + 1
  | (_, d) => uptoBulk d + 1
 end
def uptoSmall : (H : Type) → List (DataW H) → Bool := fun _ ds => decide (uptoBulkAll ds ≤ 1048576)
def OpenSpec.upto (s : _root_.Go.ChangeSpec) : _root_.Go.OpenSpec := { _root_.Go.OpenSpec.ofChange s with cond := some uptoSmall }

/-- 'pointsmanlaw5.SketchOver', WHERE WHAT IT READS IS OF BULK AT MOST 1048576: true; the input reads as it did. -/
def sketchOverUptoRow : OpenClaim := { program := "ytgpfkaiinbncnaa", sum := "14ef6e480c2f738cfc960d1fc098d2acd7ee986829ec7b4a69d57061a39b3cbc", func := "pointsman/pointsmanlaw5.SketchOver", spec := "sketchOver", unfollowed := true, recurses := true, apart := false, narrowed := true }
def SketchOverUptoSaid : Prop := sketchOverUptoRow.holds Try.pinned (OpenSpec.upto sketchOverSpec)

/-- 'pointsmanlaw5.SketchJoins', WHERE WHAT IT READS IS OF BULK AT MOST 1048576: true; the input reads as it did. -/
def sketchJoinsUptoRow : OpenClaim := { program := "ytgpfkaiinbncnaa", sum := "14ef6e480c2f738cfc960d1fc098d2acd7ee986829ec7b4a69d57061a39b3cbc", func := "pointsman/pointsmanlaw5.SketchJoins", spec := "sketchJoins", unfollowed := true, recurses := true, apart := false, narrowed := true }
def SketchJoinsUptoSaid : Prop := sketchJoinsUptoRow.holds Try.pinned (OpenSpec.upto sketchJoinsSpec)

/-- 'pointsmanlaw4.TallyBounds', WHERE WHAT IT READS IS OF BULK AT MOST 1048576: true; the input reads as it did. -/
def tallyBoundsUptoRow : OpenClaim := { program := "ytgpfkaiinbncnaa", sum := "14ef6e480c2f738cfc960d1fc098d2acd7ee986829ec7b4a69d57061a39b3cbc", func := "pointsman/pointsmanlaw4.TallyBounds", spec := "tallyBounds", unfollowed := true, recurses := true, apart := false, narrowed := true }
def TallyBoundsUptoSaid : Prop := tallyBoundsUptoRow.holds Try.pinned (OpenSpec.upto tallyBoundsSpec)

/-- 'pointsmanlaw4.TallyMore', WHERE WHAT IT READS IS OF BULK AT MOST 1048576: true; the input reads as it did. -/
def tallyMoreUptoRow : OpenClaim := { program := "ytgpfkaiinbncnaa", sum := "14ef6e480c2f738cfc960d1fc098d2acd7ee986829ec7b4a69d57061a39b3cbc", func := "pointsman/pointsmanlaw4.TallyMore", spec := "tallyMore", unfollowed := true, recurses := true, apart := false, narrowed := true }
def TallyMoreUptoSaid : Prop := tallyMoreUptoRow.holds Try.pinned (OpenSpec.upto tallyMoreSpec)

/-- 'pointsmanlaw4.TallyJoins', WHERE WHAT IT READS IS OF BULK AT MOST 1048576: true; the input reads as it did. -/
def tallyJoinsUptoRow : OpenClaim := { program := "ytgpfkaiinbncnaa", sum := "14ef6e480c2f738cfc960d1fc098d2acd7ee986829ec7b4a69d57061a39b3cbc", func := "pointsman/pointsmanlaw4.TallyJoins", spec := "tallyJoins", unfollowed := true, recurses := true, apart := false, narrowed := true }
def TallyJoinsUptoSaid : Prop := tallyJoinsUptoRow.holds Try.pinned (OpenSpec.upto tallyJoinsSpec)

/-- 'pointsmanlaw5.HeavyBound', WHERE WHAT IT READS IS OF BULK AT MOST 1048576: true; the input reads as it did. -/
def heavyBoundUptoRow : OpenClaim := { program := "ytgpfkaiinbncnaa", sum := "14ef6e480c2f738cfc960d1fc098d2acd7ee986829ec7b4a69d57061a39b3cbc", func := "pointsman/pointsmanlaw5.HeavyBound", spec := "heavyBound", unfollowed := true, recurses := true, apart := false, narrowed := true }
def HeavyBoundUptoSaid : Prop := heavyBoundUptoRow.holds Try.pinned (OpenSpec.upto heavyBoundSpec)

/-- 'pointsmanlaw3.ChainFirst', WHERE WHAT IT READS IS OF BULK AT MOST 1048576: true; the input reads as it did. -/
def chainFirstUptoRow : OpenClaim := { program := "ytgpfkaiinbncnaa", sum := "14ef6e480c2f738cfc960d1fc098d2acd7ee986829ec7b4a69d57061a39b3cbc", func := "pointsman/pointsmanlaw3.ChainFirst", spec := "chainFirst", unfollowed := true, recurses := true, apart := false, narrowed := true }
def ChainFirstUptoSaid : Prop := chainFirstUptoRow.holds Try.pinned (OpenSpec.upto chainFirstSpec)

/-- 'pointsmanlaw3.ChainSwaps', WHERE WHAT IT READS IS OF BULK AT MOST 1048576: true; the input reads as it did. -/
def chainSwapsUptoRow : OpenClaim := { program := "ytgpfkaiinbncnaa", sum := "14ef6e480c2f738cfc960d1fc098d2acd7ee986829ec7b4a69d57061a39b3cbc", func := "pointsman/pointsmanlaw3.ChainSwaps", spec := "chainSwaps", unfollowed := true, recurses := true, apart := false, narrowed := true }
def ChainSwapsUptoSaid : Prop := chainSwapsUptoRow.holds Try.pinned (OpenSpec.upto chainSwapsSpec)

end Rows
end Go.Proofs.Ytgpfkaiinbncnaa
