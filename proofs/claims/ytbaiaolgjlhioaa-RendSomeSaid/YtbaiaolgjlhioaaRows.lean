/-
  No cell of these rows narrows 'for every input' (looked for: loops, veiled, ifaces, maps, wideKeys, modest, calm, conditions, laid).
  DERIVED. THE GIVEN ROWS OF THIS SEAT. 4 by the template 'for every input the law returns true; each argument reads behind the call as it read before'; 0 by the template 'total and deterministic' (their statements: YtbaiaolgjlhioaaTotals.lean).
  GIVEN WITH THE SEED: the statements are not yours to turn. If you find one false, say at which input.
  Laid BY PROGRAM, IN A SANDBOX (cutbox-rows.mjs): the forced cells as the released guide's own fill.sh prints them over the translation 96c90ed19967183e… (all of the seat's roots in one cut). By AI agents, Wed Nov 11 2026. No macro, syntax, notation, axiom, sorry.
-/
import Derived.Test.YtbaiaolgjlhioaaChecked
import GoSem.Claim
import GoSem.ClaimJoined
import GoSem.ClaimMapViews
import Derived.JoinedTies
import Derived.KernelRfl
namespace Go.Proofs.Ytbaiaolgjlhioaa
/- THE CELL 'sum', in the pinned program and in every row, IS THE sha256 OF THE DUMP (.gsa) THAT YtbaiaolgjlhioaaProg.lean LOADS. Nothing in Lean hashes anything: it is a label: what it is worth is what the hold of that sum in a sandbox is worth. -/
noncomputable def Try.pinned : Pinned := { name := "ytbaiaolgjlhioaa", sum := "96c90ed19967183e16f1cc8a2fc26a220d6564ecd23a73a6ec62470b646d0ab0", checked := Try.checked }
namespace Rows
def none {H : Type} : Left H := { results := [], args := [] }

/-- 'pointsmanlaw3.RendLess': WHATEVER THE INPUT: true; the input reads as it did. -/
def rendLessSpec : ChangeSpec := { name := "rendLess", fn := fun _ => fun
  | [d1, d2, d3] => { results := [.lit (.bool true)], args := [d1, d2, d3] }
  | _ => none }
def rendLessRow : OpenClaim := { program := "ytbaiaolgjlhioaa", sum := "96c90ed19967183e16f1cc8a2fc26a220d6564ecd23a73a6ec62470b646d0ab0", func := "pointsman/pointsmanlaw3.RendLess", spec := "rendLess", unfollowed := true, recurses := true, apart := false }
def RendLessSaid : Prop := rendLessRow.holds Try.pinned (OpenSpec.ofChange rendLessSpec)

/-- ITS FALSE NEIGHBOUR: 'it returns false'. Refute it at one input. -/
def rendLessWrong : ChangeSpec := { name := "rendLess", fn := fun _ => fun
  | [d1, d2, d3] => { results := [.lit (.bool false)], args := [d1, d2, d3] }
  | _ => none }
def RendLessWrongFalsely : Prop := rendLessRow.holds Try.pinned (OpenSpec.ofChange rendLessWrong)

/-- 'pointsmanlaw3.RendSome': WHATEVER THE INPUT: true; the input reads as it did. -/
def rendSomeSpec : ChangeSpec := { name := "rendSome", fn := fun _ => fun
  | [d1, d2, d3, d4, d5] => { results := [.lit (.bool true)], args := [d1, d2, d3, d4, d5] }
  | _ => none }
def rendSomeRow : OpenClaim := { program := "ytbaiaolgjlhioaa", sum := "96c90ed19967183e16f1cc8a2fc26a220d6564ecd23a73a6ec62470b646d0ab0", func := "pointsman/pointsmanlaw3.RendSome", spec := "rendSome", unfollowed := true, recurses := true, apart := false }
def RendSomeSaid : Prop := rendSomeRow.holds Try.pinned (OpenSpec.ofChange rendSomeSpec)

/-- ITS FALSE NEIGHBOUR: 'it returns false'. Refute it at one input. -/
def rendSomeWrong : ChangeSpec := { name := "rendSome", fn := fun _ => fun
  | [d1, d2, d3, d4, d5] => { results := [.lit (.bool false)], args := [d1, d2, d3, d4, d5] }
  | _ => none }
def RendSomeWrongFalsely : Prop := rendSomeRow.holds Try.pinned (OpenSpec.ofChange rendSomeWrong)

/-- 'pointsmanlaw3.RingOrder': WHATEVER THE INPUT: true; the input reads as it did. -/
def ringOrderSpec : ChangeSpec := { name := "ringOrder", fn := fun _ => fun
  | [d1, d2, d3, d4, d5] => { results := [.lit (.bool true)], args := [d1, d2, d3, d4, d5] }
  | _ => none }
def ringOrderRow : OpenClaim := { program := "ytbaiaolgjlhioaa", sum := "96c90ed19967183e16f1cc8a2fc26a220d6564ecd23a73a6ec62470b646d0ab0", func := "pointsman/pointsmanlaw3.RingOrder", spec := "ringOrder", unfollowed := true, recurses := true, apart := false }
def RingOrderSaid : Prop := ringOrderRow.holds Try.pinned (OpenSpec.ofChange ringOrderSpec)

/-- ITS FALSE NEIGHBOUR: 'it returns false'. Refute it at one input. -/
def ringOrderWrong : ChangeSpec := { name := "ringOrder", fn := fun _ => fun
  | [d1, d2, d3, d4, d5] => { results := [.lit (.bool false)], args := [d1, d2, d3, d4, d5] }
  | _ => none }
def RingOrderWrongFalsely : Prop := ringOrderRow.holds Try.pinned (OpenSpec.ofChange ringOrderWrong)

/-- 'pointsmanlaw3.RingSome': WHATEVER THE INPUT: true; the input reads as it did. -/
def ringSomeSpec : ChangeSpec := { name := "ringSome", fn := fun _ => fun
  | [d1, d2, d3] => { results := [.lit (.bool true)], args := [d1, d2, d3] }
  | _ => none }
def ringSomeRow : OpenClaim := { program := "ytbaiaolgjlhioaa", sum := "96c90ed19967183e16f1cc8a2fc26a220d6564ecd23a73a6ec62470b646d0ab0", func := "pointsman/pointsmanlaw3.RingSome", spec := "ringSome", unfollowed := true, recurses := true, apart := false }
def RingSomeSaid : Prop := ringSomeRow.holds Try.pinned (OpenSpec.ofChange ringSomeSpec)

/-- ITS FALSE NEIGHBOUR: 'it returns false'. Refute it at one input. -/
def ringSomeWrong : ChangeSpec := { name := "ringSome", fn := fun _ => fun
  | [d1, d2, d3] => { results := [.lit (.bool false)], args := [d1, d2, d3] }
  | _ => none }
def RingSomeWrongFalsely : Prop := ringSomeRow.holds Try.pinned (OpenSpec.ofChange ringSomeWrong)

/- THE SECOND FORM. 'bulk': how many values and letters a reading holds, each counted each time it is reached (what is shared counts as often as it is met; a slice's spare places count too). A statement '..UptoSaid' is the law's where the arguments, and the package variables that the reading takes, are together of bulk at most 1048576: NARROWER than '..Said'. Prove '..Said' where nothing that the law and all that it calls make is longer than what came in: it says more and counts as full. Else prove '..UptoSaid'. A law counts once. -/
mutual
def uptoBulk {H : Type} : DataW H → Nat
  | .lit (.string bytes) => bytes.length + 1
  | .lit _ => 1
  | .nil => 1
  | .ptr d => uptoBulk d + 1
  | .slice elems spare => uptoBulkAll elems + uptoBulkAll spare + 1
  | .agg parts => uptoBulkAll parts + 1
  | .iface _ d => uptoBulk d + 1
  | .map entries => uptoBulkEntries entries + 1
  | .held _ => 1
def uptoBulkAll {H : Type} : List (DataW H) → Nat
  | [] => 0
  | d :: r => uptoBulk d + uptoBulkAll r
def uptoBulkEntries {H : Type} : List (Lit × DataW H) → Nat
  | [] => 0
  | x :: r => uptoBulkEntry x + uptoBulkEntries r
def uptoBulkEntry {H : Type} : Lit × DataW H → Nat
  | (.string bytes, d) => bytes.length + uptoBulk d + 1
  | (_, d) => uptoBulk d + 1
 end
def uptoSmall : (H : Type) → List (DataW H) → Bool := fun _ ds => decide (uptoBulkAll ds ≤ 1048576)
def OpenSpec.upto (s : _root_.Go.ChangeSpec) : _root_.Go.OpenSpec := { _root_.Go.OpenSpec.ofChange s with cond := some uptoSmall }

/-- 'pointsmanlaw3.RendLess', WHERE WHAT IT READS IS OF BULK AT MOST 1048576: true; the input reads as it did. -/
def rendLessUptoRow : OpenClaim := { program := "ytbaiaolgjlhioaa", sum := "96c90ed19967183e16f1cc8a2fc26a220d6564ecd23a73a6ec62470b646d0ab0", func := "pointsman/pointsmanlaw3.RendLess", spec := "rendLess", unfollowed := true, recurses := true, apart := false, narrowed := true }
def RendLessUptoSaid : Prop := rendLessUptoRow.holds Try.pinned (OpenSpec.upto rendLessSpec)

/-- 'pointsmanlaw3.RendSome', WHERE WHAT IT READS IS OF BULK AT MOST 1048576: true; the input reads as it did. -/
def rendSomeUptoRow : OpenClaim := { program := "ytbaiaolgjlhioaa", sum := "96c90ed19967183e16f1cc8a2fc26a220d6564ecd23a73a6ec62470b646d0ab0", func := "pointsman/pointsmanlaw3.RendSome", spec := "rendSome", unfollowed := true, recurses := true, apart := false, narrowed := true }
def RendSomeUptoSaid : Prop := rendSomeUptoRow.holds Try.pinned (OpenSpec.upto rendSomeSpec)

/-- 'pointsmanlaw3.RingOrder', WHERE WHAT IT READS IS OF BULK AT MOST 1048576: true; the input reads as it did. -/
def ringOrderUptoRow : OpenClaim := { program := "ytbaiaolgjlhioaa", sum := "96c90ed19967183e16f1cc8a2fc26a220d6564ecd23a73a6ec62470b646d0ab0", func := "pointsman/pointsmanlaw3.RingOrder", spec := "ringOrder", unfollowed := true, recurses := true, apart := false, narrowed := true }
def RingOrderUptoSaid : Prop := ringOrderUptoRow.holds Try.pinned (OpenSpec.upto ringOrderSpec)

/-- 'pointsmanlaw3.RingSome', WHERE WHAT IT READS IS OF BULK AT MOST 1048576: true; the input reads as it did. -/
def ringSomeUptoRow : OpenClaim := { program := "ytbaiaolgjlhioaa", sum := "96c90ed19967183e16f1cc8a2fc26a220d6564ecd23a73a6ec62470b646d0ab0", func := "pointsman/pointsmanlaw3.RingSome", spec := "ringSome", unfollowed := true, recurses := true, apart := false, narrowed := true }
def RingSomeUptoSaid : Prop := ringSomeUptoRow.holds Try.pinned (OpenSpec.upto ringSomeSpec)

end Rows
end Go.Proofs.Ytbaiaolgjlhioaa
