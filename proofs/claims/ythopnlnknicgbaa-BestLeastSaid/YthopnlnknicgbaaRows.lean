/-
  No cell of these rows narrows 'for every input' (looked for: loops, veiled, ifaces, maps, wideKeys, modest, calm, conditions, laid).
  DERIVED. THE GIVEN ROWS OF THIS SEAT. 6 by the template 'for every input the law returns true; each argument reads behind the call as it read before'; 0 by the template 'total and deterministic' (their statements: YthopnlnknicgbaaTotals.lean).
  GIVEN WITH THE SEED: the statements are not yours to turn. If you find one false, say at which input.
  Laid BY PROGRAM, IN A SANDBOX (cutbox-rows.mjs): the forced cells as the released guide's own fill.sh prints them over the translation 3df92f654941076e… (all of the seat's roots in one cut). By AI agents, Wed Nov 11 2026. No macro, syntax, notation, axiom, sorry.
-/
import Derived.Test.YthopnlnknicgbaaChecked
import GoSem.Claim
import GoSem.ClaimJoined
import GoSem.ClaimMapViews
import Derived.JoinedTies
import Derived.KernelRfl
namespace Go.Proofs.Ythopnlnknicgbaa
/- THE CELL 'sum', in the pinned program and in every row, IS THE sha256 OF THE DUMP (.gsa) THAT YthopnlnknicgbaaProg.lean LOADS. Nothing in Lean hashes anything: it is a label: what it is worth is what the hold of that sum in a sandbox is worth. -/
noncomputable def Try.pinned : Pinned := { name := "ythopnlnknicgbaa", sum := "3df92f654941076e356af84eecb1c4a33b23c36ec820a4f79769c6e80475867c", checked := Try.checked }
namespace Rows
def none {H : Type} : Left H := { results := [], args := [] }

/-- 'pointsmanlaw3.LeastLevel': WHATEVER THE INPUT: true; the input reads as it did. -/
def leastLevelSpec : ChangeSpec := { name := "leastLevel", fn := fun _ => fun
  | [d1, d2] => { results := [.lit (.bool true)], args := [d1, d2] }
  | _ => none }
def leastLevelRow : OpenClaim := { program := "ythopnlnknicgbaa", sum := "3df92f654941076e356af84eecb1c4a33b23c36ec820a4f79769c6e80475867c", func := "pointsman/pointsmanlaw3.LeastLevel", spec := "leastLevel", apart := false }
def LeastLevelSaid : Prop := leastLevelRow.holds Try.pinned (OpenSpec.ofChange leastLevelSpec)

/-- ITS FALSE NEIGHBOUR: 'it returns false'. Refute it at one input. -/
def leastLevelWrong : ChangeSpec := { name := "leastLevel", fn := fun _ => fun
  | [d1, d2] => { results := [.lit (.bool false)], args := [d1, d2] }
  | _ => none }
def LeastLevelWrongFalsely : Prop := leastLevelRow.holds Try.pinned (OpenSpec.ofChange leastLevelWrong)

/-- 'pointsmanlaw5.DrrOrder': WHATEVER THE INPUT: true; the input reads as it did. -/
def drrOrderSpec : ChangeSpec := { name := "drrOrder", fn := fun _ => fun
  | [d1, d2, d3] => { results := [.lit (.bool true)], args := [d1, d2, d3] }
  | _ => none }
def drrOrderRow : OpenClaim := { program := "ythopnlnknicgbaa", sum := "3df92f654941076e356af84eecb1c4a33b23c36ec820a4f79769c6e80475867c", func := "pointsman/pointsmanlaw5.DrrOrder", spec := "drrOrder", unfollowed := true, recurses := true, apart := false }
def DrrOrderSaid : Prop := drrOrderRow.holds Try.pinned (OpenSpec.ofChange drrOrderSpec)

/-- ITS FALSE NEIGHBOUR: 'it returns false'. Refute it at one input. -/
def drrOrderWrong : ChangeSpec := { name := "drrOrder", fn := fun _ => fun
  | [d1, d2, d3] => { results := [.lit (.bool false)], args := [d1, d2, d3] }
  | _ => none }
def DrrOrderWrongFalsely : Prop := drrOrderRow.holds Try.pinned (OpenSpec.ofChange drrOrderWrong)

/-- 'pointsmanlaw5.DrrFair': WHATEVER THE INPUT: true; the input reads as it did. -/
def drrFairSpec : ChangeSpec := { name := "drrFair", fn := fun _ => fun
  | [d1, d2, d3, d4, d5] => { results := [.lit (.bool true)], args := [d1, d2, d3, d4, d5] }
  | _ => none }
def drrFairRow : OpenClaim := { program := "ythopnlnknicgbaa", sum := "3df92f654941076e356af84eecb1c4a33b23c36ec820a4f79769c6e80475867c", func := "pointsman/pointsmanlaw5.DrrFair", spec := "drrFair", unfollowed := true, recurses := true, apart := false }
def DrrFairSaid : Prop := drrFairRow.holds Try.pinned (OpenSpec.ofChange drrFairSpec)

/-- ITS FALSE NEIGHBOUR: 'it returns false'. Refute it at one input. -/
def drrFairWrong : ChangeSpec := { name := "drrFair", fn := fun _ => fun
  | [d1, d2, d3, d4, d5] => { results := [.lit (.bool false)], args := [d1, d2, d3, d4, d5] }
  | _ => none }
def DrrFairWrongFalsely : Prop := drrFairRow.holds Try.pinned (OpenSpec.ofChange drrFairWrong)

/-- 'pointsmanlaw3.LruStack': WHATEVER THE INPUT: true; the input reads as it did. -/
def lruStackSpec : ChangeSpec := { name := "lruStack", fn := fun _ => fun
  | [d1, d2, d3] => { results := [.lit (.bool true)], args := [d1, d2, d3] }
  | _ => none }
def lruStackRow : OpenClaim := { program := "ythopnlnknicgbaa", sum := "3df92f654941076e356af84eecb1c4a33b23c36ec820a4f79769c6e80475867c", func := "pointsman/pointsmanlaw3.LruStack", spec := "lruStack", inPlace := ["slices.overlaps[int]"], apart := false }
def LruStackSaid : Prop := lruStackRow.holds Try.pinned (OpenSpec.ofChange lruStackSpec)

/-- ITS FALSE NEIGHBOUR: 'it returns false'. Refute it at one input. -/
def lruStackWrong : ChangeSpec := { name := "lruStack", fn := fun _ => fun
  | [d1, d2, d3] => { results := [.lit (.bool false)], args := [d1, d2, d3] }
  | _ => none }
def LruStackWrongFalsely : Prop := lruStackRow.holds Try.pinned (OpenSpec.ofChange lruStackWrong)

/-- 'pointsmanlaw3.BestLeast': WHATEVER THE INPUT: true; the input reads as it did. -/
def bestLeastSpec : ChangeSpec := { name := "bestLeast", fn := fun _ => fun
  | [d1, d2, d3] => { results := [.lit (.bool true)], args := [d1, d2, d3] }
  | _ => none }
def bestLeastRow : OpenClaim := { program := "ythopnlnknicgbaa", sum := "3df92f654941076e356af84eecb1c4a33b23c36ec820a4f79769c6e80475867c", func := "pointsman/pointsmanlaw3.BestLeast", spec := "bestLeast", inPlace := ["slices.overlaps[int]"], apart := false }
def BestLeastSaid : Prop := bestLeastRow.holds Try.pinned (OpenSpec.ofChange bestLeastSpec)

/-- ITS FALSE NEIGHBOUR: 'it returns false'. Refute it at one input. -/
def bestLeastWrong : ChangeSpec := { name := "bestLeast", fn := fun _ => fun
  | [d1, d2, d3] => { results := [.lit (.bool false)], args := [d1, d2, d3] }
  | _ => none }
def BestLeastWrongFalsely : Prop := bestLeastRow.holds Try.pinned (OpenSpec.ofChange bestLeastWrong)

/-- 'pointsmanlaw3.BestTwice': WHATEVER THE INPUT: true; the input reads as it did. -/
def bestTwiceSpec : ChangeSpec := { name := "bestTwice", fn := fun _ => fun
  | [d1, d2, d3] => { results := [.lit (.bool true)], args := [d1, d2, d3] }
  | _ => none }
def bestTwiceRow : OpenClaim := { program := "ythopnlnknicgbaa", sum := "3df92f654941076e356af84eecb1c4a33b23c36ec820a4f79769c6e80475867c", func := "pointsman/pointsmanlaw3.BestTwice", spec := "bestTwice", inPlace := ["slices.overlaps[int]"], apart := false }
def BestTwiceSaid : Prop := bestTwiceRow.holds Try.pinned (OpenSpec.ofChange bestTwiceSpec)

/-- ITS FALSE NEIGHBOUR: 'it returns false'. Refute it at one input. -/
def bestTwiceWrong : ChangeSpec := { name := "bestTwice", fn := fun _ => fun
  | [d1, d2, d3] => { results := [.lit (.bool false)], args := [d1, d2, d3] }
  | _ => none }
def BestTwiceWrongFalsely : Prop := bestTwiceRow.holds Try.pinned (OpenSpec.ofChange bestTwiceWrong)

/- THE SECOND FORM. 'bulk': how many values and letters a reading holds, each counted each time it is reached (what is shared counts as often as it is met; a slice's spare places count too). A statement '..UptoSaid' is the law's where the arguments, and the package variables that the reading takes, are together of bulk at most 1048576: NARROWER than '..Said'. Prove '..Said' where nothing that the law and all that it calls make is longer than what came in: it says more and counts as full. Else prove '..UptoSaid'. A law counts once. -/
mutual
def uptoBulk {H : Type} : DataW H → Nat
  | .lit (.string bytes) => bytes.length + 1
  | .lit _ => 1
  | .nil => 1
  | .ptr d => uptoBulk d + 1
  | .slice elems spare => uptoBulkAll elems + uptoBulkAll spare + 1
  | .agg parts => uptoBulkAll parts + 1
  | .iface _ d => uptoBulk d + 1
  | .map entries => uptoBulkEntries entries + 1
  | .held _ => 1
def uptoBulkAll {H : Type} : List (DataW H) → Nat
  | [] => 0
  | d :: r => uptoBulk d + uptoBulkAll r
def uptoBulkEntries {H : Type} : List (Lit × DataW H) → Nat
  | [] => 0
  | x :: r => uptoBulkEntry x + uptoBulkEntries r
def uptoBulkEntry {H : Type} : Lit × DataW H → Nat
  | (.string bytes, d) => bytes.length + uptoBulk d + 1
  | (_, d) => uptoBulk d + 1
 end
def uptoSmall : (H : Type) → List (DataW H) → Bool := fun _ ds => decide (uptoBulkAll ds ≤ 1048576)
def OpenSpec.upto (s : _root_.Go.ChangeSpec) : _root_.Go.OpenSpec := { _root_.Go.OpenSpec.ofChange s with cond := some uptoSmall }

/-- 'pointsmanlaw3.LeastLevel', WHERE WHAT IT READS IS OF BULK AT MOST 1048576: true; the input reads as it did. -/
def leastLevelUptoRow : OpenClaim := { program := "ythopnlnknicgbaa", sum := "3df92f654941076e356af84eecb1c4a33b23c36ec820a4f79769c6e80475867c", func := "pointsman/pointsmanlaw3.LeastLevel", spec := "leastLevel", apart := false, narrowed := true }
def LeastLevelUptoSaid : Prop := leastLevelUptoRow.holds Try.pinned (OpenSpec.upto leastLevelSpec)

/-- 'pointsmanlaw5.DrrOrder', WHERE WHAT IT READS IS OF BULK AT MOST 1048576: true; the input reads as it did. -/
def drrOrderUptoRow : OpenClaim := { program := "ythopnlnknicgbaa", sum := "3df92f654941076e356af84eecb1c4a33b23c36ec820a4f79769c6e80475867c", func := "pointsman/pointsmanlaw5.DrrOrder", spec := "drrOrder", unfollowed := true, recurses := true, apart := false, narrowed := true }
def DrrOrderUptoSaid : Prop := drrOrderUptoRow.holds Try.pinned (OpenSpec.upto drrOrderSpec)

/-- 'pointsmanlaw5.DrrFair', WHERE WHAT IT READS IS OF BULK AT MOST 1048576: true; the input reads as it did. -/
def drrFairUptoRow : OpenClaim := { program := "ythopnlnknicgbaa", sum := "3df92f654941076e356af84eecb1c4a33b23c36ec820a4f79769c6e80475867c", func := "pointsman/pointsmanlaw5.DrrFair", spec := "drrFair", unfollowed := true, recurses := true, apart := false, narrowed := true }
def DrrFairUptoSaid : Prop := drrFairUptoRow.holds Try.pinned (OpenSpec.upto drrFairSpec)

/-- 'pointsmanlaw3.LruStack', WHERE WHAT IT READS IS OF BULK AT MOST 1048576: true; the input reads as it did. -/
def lruStackUptoRow : OpenClaim := { program := "ythopnlnknicgbaa", sum := "3df92f654941076e356af84eecb1c4a33b23c36ec820a4f79769c6e80475867c", func := "pointsman/pointsmanlaw3.LruStack", spec := "lruStack", inPlace := ["slices.overlaps[int]"], apart := false, narrowed := true }
def LruStackUptoSaid : Prop := lruStackUptoRow.holds Try.pinned (OpenSpec.upto lruStackSpec)

/-- 'pointsmanlaw3.BestLeast', WHERE WHAT IT READS IS OF BULK AT MOST 1048576: true; the input reads as it did. -/
def bestLeastUptoRow : OpenClaim := { program := "ythopnlnknicgbaa", sum := "3df92f654941076e356af84eecb1c4a33b23c36ec820a4f79769c6e80475867c", func := "pointsman/pointsmanlaw3.BestLeast", spec := "bestLeast", inPlace := ["slices.overlaps[int]"], apart := false, narrowed := true }
def BestLeastUptoSaid : Prop := bestLeastUptoRow.holds Try.pinned (OpenSpec.upto bestLeastSpec)

/-- 'pointsmanlaw3.BestTwice', WHERE WHAT IT READS IS OF BULK AT MOST 1048576: true; the input reads as it did. -/
def bestTwiceUptoRow : OpenClaim := { program := "ythopnlnknicgbaa", sum := "3df92f654941076e356af84eecb1c4a33b23c36ec820a4f79769c6e80475867c", func := "pointsman/pointsmanlaw3.BestTwice", spec := "bestTwice", inPlace := ["slices.overlaps[int]"], apart := false, narrowed := true }
def BestTwiceUptoSaid : Prop := bestTwiceUptoRow.holds Try.pinned (OpenSpec.upto bestTwiceSpec)

end Rows
end Go.Proofs.Ythopnlnknicgbaa
