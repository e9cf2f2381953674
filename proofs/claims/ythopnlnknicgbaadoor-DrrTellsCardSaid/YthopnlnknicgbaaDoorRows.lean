/-
  NARROWER THAN 'FOR EVERY INPUT', by the rows' own cells (each row's printed sentence says how): LeastTells: laid · FlightTells: laid · FlightApart: laid · DrrTells: laid · LruTells: laid · BestTells: laid.
  DERIVED. THE GIVEN ROWS OF THIS SEAT. 6 by the template 'for every input the law returns true; each argument reads behind the call as it read before'; 0 by the template 'total and deterministic' (their statements: YthopnlnknicgbaaDoorTotals.lean).
  GIVEN WITH THE SEED: the statements are not yours to turn. If you find one false, say at which input.
  Laid BY PROGRAM, IN A SANDBOX (cutbox-rows.mjs): the forced cells as the released guide's own fill.sh prints them over the translation 269b85dee7ba96c2… (all of the seat's roots in one cut). By AI agents, Wed Nov 11 2026. No macro, syntax, notation, axiom, sorry.
-/
import Derived.Test.YthopnlnknicgbaaDoorChecked
import GoSem.Claim
import GoSem.ClaimJoined
import GoSem.ClaimMapViews
import Derived.JoinedTies
import Derived.KernelRfl
namespace Go.Proofs.YthopnlnknicgbaaDoor
/- THE CELL 'sum', in the pinned program and in every row, IS THE sha256 OF THE DUMP (.gsa) THAT YthopnlnknicgbaaDoorProg.lean LOADS. Nothing in Lean hashes anything: it is a label: what it is worth is what the hold of that sum in a sandbox is worth. -/
noncomputable def Tryd.pinned : Pinned := { name := "ythopnlnknicgbaadoor", sum := "269b85dee7ba96c24bd1e6d29a8fa06f2517cda301ffe76667b02941d98396b9", checked := Tryd.checked }
namespace Rows
def none {H : Type} : Left H := { results := [], args := [] }

/- WHAT THE LISTED PACKAGE-LEVEL VARIABLES READ AS WHEN THE CALL BEGINS. Each datum BY PROGRAM (the guide's laid-datum.mjs) off the statement by which the dump's own 'gosem.cut.vars' lays the variable. In a bare row this is a premise. The card (YthopnlnknicgbaaDoorCards.lean) ties it to the program's text. -/
def laid_errors_errorType {H : Type} : DataW H := .iface "internal/reflectlite.rtype" (.agg [.ptr (.lit (.string [101, 114, 114, 111, 114]))])

/-- 'pointsmanlaw3.LeastTells': WHATEVER THE INPUT: true; the input reads as it did. -/
def leastTellsSpec : ChangeSpec := { name := "leastTells", fn := fun _ => fun
  | [d1, d2] => { results := [.lit (.bool true)], args := [d1, d2] }
  | _ => none }
def leastTellsRow : OpenClaim := { program := "ythopnlnknicgbaadoor", sum := "269b85dee7ba96c24bd1e6d29a8fa06f2517cda301ffe76667b02941d98396b9", func := "pointsman/pointsmanlaw3.LeastTells", spec := "leastTells", inPlace := ["internal/reflectlite.ValueOf", "(internal/reflectlite.Value).Type", "(internal/reflectlite.Value).IsNil", "internal/reflectlite.TypeOf", "(internal/reflectlite.Value).Elem", "(internal/reflectlite.Value).Set"], unfollowed := true, recurses := true, named := ["errors.errorType"], apart := false, laid := [("errors.errorType", laid_errors_errorType)] }
def LeastTellsSaid : Prop := leastTellsRow.holds Tryd.pinned (OpenSpec.ofChange leastTellsSpec)

/-- ITS FALSE NEIGHBOUR: 'it returns false'. Refute it at one input. -/
def leastTellsWrong : ChangeSpec := { name := "leastTells", fn := fun _ => fun
  | [d1, d2] => { results := [.lit (.bool false)], args := [d1, d2] }
  | _ => none }
def LeastTellsWrongFalsely : Prop := leastTellsRow.holds Tryd.pinned (OpenSpec.ofChange leastTellsWrong)

/-- 'pointsmanlaw4.FlightTells': WHATEVER THE INPUT: true; the input reads as it did. -/
def flightTellsSpec : ChangeSpec := { name := "flightTells", fn := fun _ => fun
  | [d1, d2] => { results := [.lit (.bool true)], args := [d1, d2] }
  | _ => none }
def flightTellsRow : OpenClaim := { program := "ythopnlnknicgbaadoor", sum := "269b85dee7ba96c24bd1e6d29a8fa06f2517cda301ffe76667b02941d98396b9", func := "pointsman/pointsmanlaw4.FlightTells", spec := "flightTells", inPlace := ["internal/reflectlite.ValueOf", "(internal/reflectlite.Value).Type", "(internal/reflectlite.Value).IsNil", "internal/reflectlite.TypeOf", "(internal/reflectlite.Value).Elem", "(internal/reflectlite.Value).Set"], unfollowed := true, recurses := true, named := ["errors.errorType"], apart := false, laid := [("errors.errorType", laid_errors_errorType)] }
def FlightTellsSaid : Prop := flightTellsRow.holds Tryd.pinned (OpenSpec.ofChange flightTellsSpec)

/-- ITS FALSE NEIGHBOUR: 'it returns false'. Refute it at one input. -/
def flightTellsWrong : ChangeSpec := { name := "flightTells", fn := fun _ => fun
  | [d1, d2] => { results := [.lit (.bool false)], args := [d1, d2] }
  | _ => none }
def FlightTellsWrongFalsely : Prop := flightTellsRow.holds Tryd.pinned (OpenSpec.ofChange flightTellsWrong)

/-- 'pointsmanlaw4.FlightApart': WHATEVER THE INPUT: true; the input reads as it did. -/
def flightApartSpec : ChangeSpec := { name := "flightApart", fn := fun _ => fun
  | [d1, d2] => { results := [.lit (.bool true)], args := [d1, d2] }
  | _ => none }
def flightApartRow : OpenClaim := { program := "ythopnlnknicgbaadoor", sum := "269b85dee7ba96c24bd1e6d29a8fa06f2517cda301ffe76667b02941d98396b9", func := "pointsman/pointsmanlaw4.FlightApart", spec := "flightApart", inPlace := ["internal/reflectlite.ValueOf", "(internal/reflectlite.Value).Type", "(internal/reflectlite.Value).IsNil", "internal/reflectlite.TypeOf", "(internal/reflectlite.Value).Elem", "(internal/reflectlite.Value).Set"], unfollowed := true, recurses := true, named := ["errors.errorType"], apart := false, laid := [("errors.errorType", laid_errors_errorType)] }
def FlightApartSaid : Prop := flightApartRow.holds Tryd.pinned (OpenSpec.ofChange flightApartSpec)

/-- ITS FALSE NEIGHBOUR: 'it returns false'. Refute it at one input. -/
def flightApartWrong : ChangeSpec := { name := "flightApart", fn := fun _ => fun
  | [d1, d2] => { results := [.lit (.bool false)], args := [d1, d2] }
  | _ => none }
def FlightApartWrongFalsely : Prop := flightApartRow.holds Tryd.pinned (OpenSpec.ofChange flightApartWrong)

/-- 'pointsmanlaw5.DrrTells': WHATEVER THE INPUT: true; the input reads as it did. -/
def drrTellsSpec : ChangeSpec := { name := "drrTells", fn := fun _ => fun
  | [d1, d2, d3] => { results := [.lit (.bool true)], args := [d1, d2, d3] }
  | _ => none }
def drrTellsRow : OpenClaim := { program := "ythopnlnknicgbaadoor", sum := "269b85dee7ba96c24bd1e6d29a8fa06f2517cda301ffe76667b02941d98396b9", func := "pointsman/pointsmanlaw5.DrrTells", spec := "drrTells", inPlace := ["internal/reflectlite.ValueOf", "(internal/reflectlite.Value).Type", "(internal/reflectlite.Value).IsNil", "internal/reflectlite.TypeOf", "(internal/reflectlite.Value).Elem", "(internal/reflectlite.Value).Set"], unfollowed := true, recurses := true, named := ["errors.errorType"], apart := false, laid := [("errors.errorType", laid_errors_errorType)] }
def DrrTellsSaid : Prop := drrTellsRow.holds Tryd.pinned (OpenSpec.ofChange drrTellsSpec)

/-- ITS FALSE NEIGHBOUR: 'it returns false'. Refute it at one input. -/
def drrTellsWrong : ChangeSpec := { name := "drrTells", fn := fun _ => fun
  | [d1, d2, d3] => { results := [.lit (.bool false)], args := [d1, d2, d3] }
  | _ => none }
def DrrTellsWrongFalsely : Prop := drrTellsRow.holds Tryd.pinned (OpenSpec.ofChange drrTellsWrong)

/-- 'pointsmanlaw3.LruTells': WHATEVER THE INPUT: true; the input reads as it did. -/
def lruTellsSpec : ChangeSpec := { name := "lruTells", fn := fun _ => fun
  | [d1, d2] => { results := [.lit (.bool true)], args := [d1, d2] }
  | _ => none }
def lruTellsRow : OpenClaim := { program := "ythopnlnknicgbaadoor", sum := "269b85dee7ba96c24bd1e6d29a8fa06f2517cda301ffe76667b02941d98396b9", func := "pointsman/pointsmanlaw3.LruTells", spec := "lruTells", inPlace := ["slices.overlaps[int]", "internal/reflectlite.ValueOf", "(internal/reflectlite.Value).Type", "(internal/reflectlite.Value).IsNil", "internal/reflectlite.TypeOf", "(internal/reflectlite.Value).Elem", "(internal/reflectlite.Value).Set"], unfollowed := true, recurses := true, named := ["errors.errorType"], apart := false, laid := [("errors.errorType", laid_errors_errorType)] }
def LruTellsSaid : Prop := lruTellsRow.holds Tryd.pinned (OpenSpec.ofChange lruTellsSpec)

/-- ITS FALSE NEIGHBOUR: 'it returns false'. Refute it at one input. -/
def lruTellsWrong : ChangeSpec := { name := "lruTells", fn := fun _ => fun
  | [d1, d2] => { results := [.lit (.bool false)], args := [d1, d2] }
  | _ => none }
def LruTellsWrongFalsely : Prop := lruTellsRow.holds Tryd.pinned (OpenSpec.ofChange lruTellsWrong)

/-- 'pointsmanlaw3.BestTells': WHATEVER THE INPUT: true; the input reads as it did. -/
def bestTellsSpec : ChangeSpec := { name := "bestTells", fn := fun _ => fun
  | [d1, d2] => { results := [.lit (.bool true)], args := [d1, d2] }
  | _ => none }
def bestTellsRow : OpenClaim := { program := "ythopnlnknicgbaadoor", sum := "269b85dee7ba96c24bd1e6d29a8fa06f2517cda301ffe76667b02941d98396b9", func := "pointsman/pointsmanlaw3.BestTells", spec := "bestTells", inPlace := ["internal/reflectlite.ValueOf", "(internal/reflectlite.Value).Type", "(internal/reflectlite.Value).IsNil", "internal/reflectlite.TypeOf", "(internal/reflectlite.Value).Elem", "(internal/reflectlite.Value).Set"], unfollowed := true, recurses := true, named := ["errors.errorType"], apart := false, laid := [("errors.errorType", laid_errors_errorType)] }
def BestTellsSaid : Prop := bestTellsRow.holds Tryd.pinned (OpenSpec.ofChange bestTellsSpec)

/-- ITS FALSE NEIGHBOUR: 'it returns false'. Refute it at one input. -/
def bestTellsWrong : ChangeSpec := { name := "bestTells", fn := fun _ => fun
  | [d1, d2] => { results := [.lit (.bool false)], args := [d1, d2] }
  | _ => none }
def BestTellsWrongFalsely : Prop := bestTellsRow.holds Tryd.pinned (OpenSpec.ofChange bestTellsWrong)

/- THE SECOND FORM. 'bulk': how many values and letters a reading holds, each counted each time it is reached (what is shared counts as often as it is met; a slice's spare places count too). A statement '..UptoSaid' is the law's where the arguments, and the package variables that the reading takes, are together of bulk at most 1048576: NARROWER than '..Said'. Prove '..Said' where nothing that the law and all that it calls make is longer than what came in: it says more and counts as full. Else prove '..UptoSaid'. A law counts once. -/
mutual
def uptoBulk {H : Type} : DataW H → Nat
  | .lit (.string bytes) => bytes.length + 1
  | .lit _ => 1
  | .nil => 1
  | .ptr d => uptoBulk d + 1
  | .slice elems spare => uptoBulkAll elems + uptoBulkAll spare + 1
  | .agg parts => uptoBulkAll parts + 1
  | .iface _ d => uptoBulk d + 1
  | .map entries => uptoBulkEntries entries + 1
  | .held _ => 1
def uptoBulkAll {H : Type} : List (DataW H) → Nat
  | [] => 0
  | d :: r => uptoBulk d + uptoBulkAll r
def uptoBulkEntries {H : Type} : List (Lit × DataW H) → Nat
  | [] => 0
  | x :: r => uptoBulkEntry x + uptoBulkEntries r
def uptoBulkEntry {H : Type} : Lit × DataW H → Nat
  | (.string bytes, d) => bytes.length + uptoBulk d + 1
  | (_, d) => uptoBulk d + 1
 end
def uptoSmall : (H : Type) → List (DataW H) → Bool := fun _ ds => decide (uptoBulkAll ds ≤ 1048576)
def OpenSpec.upto (s : _root_.Go.ChangeSpec) : _root_.Go.OpenSpec := { _root_.Go.OpenSpec.ofChange s with cond := some uptoSmall }

/-- 'pointsmanlaw3.LeastTells', WHERE WHAT IT READS IS OF BULK AT MOST 1048576: true; the input reads as it did. -/
def leastTellsUptoRow : OpenClaim := { program := "ythopnlnknicgbaadoor", sum := "269b85dee7ba96c24bd1e6d29a8fa06f2517cda301ffe76667b02941d98396b9", func := "pointsman/pointsmanlaw3.LeastTells", spec := "leastTells", inPlace := ["internal/reflectlite.ValueOf", "(internal/reflectlite.Value).Type", "(internal/reflectlite.Value).IsNil", "internal/reflectlite.TypeOf", "(internal/reflectlite.Value).Elem", "(internal/reflectlite.Value).Set"], unfollowed := true, recurses := true, named := ["errors.errorType"], apart := false, laid := [("errors.errorType", laid_errors_errorType)], narrowed := true }
def LeastTellsUptoSaid : Prop := leastTellsUptoRow.holds Tryd.pinned (OpenSpec.upto leastTellsSpec)

/-- 'pointsmanlaw4.FlightTells', WHERE WHAT IT READS IS OF BULK AT MOST 1048576: true; the input reads as it did. -/
def flightTellsUptoRow : OpenClaim := { program := "ythopnlnknicgbaadoor", sum := "269b85dee7ba96c24bd1e6d29a8fa06f2517cda301ffe76667b02941d98396b9", func := "pointsman/pointsmanlaw4.FlightTells", spec := "flightTells", inPlace := ["internal/reflectlite.ValueOf", "(internal/reflectlite.Value).Type", "(internal/reflectlite.Value).IsNil", "internal/reflectlite.TypeOf", "(internal/reflectlite.Value).Elem", "(internal/reflectlite.Value).Set"], unfollowed := true, recurses := true, named := ["errors.errorType"], apart := false, laid := [("errors.errorType", laid_errors_errorType)], narrowed := true }
def FlightTellsUptoSaid : Prop := flightTellsUptoRow.holds Tryd.pinned (OpenSpec.upto flightTellsSpec)

/-- 'pointsmanlaw4.FlightApart', WHERE WHAT IT READS IS OF BULK AT MOST 1048576: true; the input reads as it did. -/
def flightApartUptoRow : OpenClaim := { program := "ythopnlnknicgbaadoor", sum := "269b85dee7ba96c24bd1e6d29a8fa06f2517cda301ffe76667b02941d98396b9", func := "pointsman/pointsmanlaw4.FlightApart", spec := "flightApart", inPlace := ["internal/reflectlite.ValueOf", "(internal/reflectlite.Value).Type", "(internal/reflectlite.Value).IsNil", "internal/reflectlite.TypeOf", "(internal/reflectlite.Value).Elem", "(internal/reflectlite.Value).Set"], unfollowed := true, recurses := true, named := ["errors.errorType"], apart := false, laid := [("errors.errorType", laid_errors_errorType)], narrowed := true }
def FlightApartUptoSaid : Prop := flightApartUptoRow.holds Tryd.pinned (OpenSpec.upto flightApartSpec)

/-- 'pointsmanlaw5.DrrTells', WHERE WHAT IT READS IS OF BULK AT MOST 1048576: true; the input reads as it did. -/
def drrTellsUptoRow : OpenClaim := { program := "ythopnlnknicgbaadoor", sum := "269b85dee7ba96c24bd1e6d29a8fa06f2517cda301ffe76667b02941d98396b9", func := "pointsman/pointsmanlaw5.DrrTells", spec := "drrTells", inPlace := ["internal/reflectlite.ValueOf", "(internal/reflectlite.Value).Type", "(internal/reflectlite.Value).IsNil", "internal/reflectlite.TypeOf", "(internal/reflectlite.Value).Elem", "(internal/reflectlite.Value).Set"], unfollowed := true, recurses := true, named := ["errors.errorType"], apart := false, laid := [("errors.errorType", laid_errors_errorType)], narrowed := true }
def DrrTellsUptoSaid : Prop := drrTellsUptoRow.holds Tryd.pinned (OpenSpec.upto drrTellsSpec)

/-- 'pointsmanlaw3.LruTells', WHERE WHAT IT READS IS OF BULK AT MOST 1048576: true; the input reads as it did. -/
def lruTellsUptoRow : OpenClaim := { program := "ythopnlnknicgbaadoor", sum := "269b85dee7ba96c24bd1e6d29a8fa06f2517cda301ffe76667b02941d98396b9", func := "pointsman/pointsmanlaw3.LruTells", spec := "lruTells", inPlace := ["slices.overlaps[int]", "internal/reflectlite.ValueOf", "(internal/reflectlite.Value).Type", "(internal/reflectlite.Value).IsNil", "internal/reflectlite.TypeOf", "(internal/reflectlite.Value).Elem", "(internal/reflectlite.Value).Set"], unfollowed := true, recurses := true, named := ["errors.errorType"], apart := false, laid := [("errors.errorType", laid_errors_errorType)], narrowed := true }
def LruTellsUptoSaid : Prop := lruTellsUptoRow.holds Tryd.pinned (OpenSpec.upto lruTellsSpec)

/-- 'pointsmanlaw3.BestTells', WHERE WHAT IT READS IS OF BULK AT MOST 1048576: true; the input reads as it did. -/
def bestTellsUptoRow : OpenClaim := { program := "ythopnlnknicgbaadoor", sum := "269b85dee7ba96c24bd1e6d29a8fa06f2517cda301ffe76667b02941d98396b9", func := "pointsman/pointsmanlaw3.BestTells", spec := "bestTells", inPlace := ["internal/reflectlite.ValueOf", "(internal/reflectlite.Value).Type", "(internal/reflectlite.Value).IsNil", "internal/reflectlite.TypeOf", "(internal/reflectlite.Value).Elem", "(internal/reflectlite.Value).Set"], unfollowed := true, recurses := true, named := ["errors.errorType"], apart := false, laid := [("errors.errorType", laid_errors_errorType)], narrowed := true }
def BestTellsUptoSaid : Prop := bestTellsUptoRow.holds Tryd.pinned (OpenSpec.upto bestTellsSpec)

end Rows
end Go.Proofs.YthopnlnknicgbaaDoor
