/- The door seats' common parts: what the listed variable gives, a world that meets the condition, S.Error. -/
import Derived.Test.YtgpfkaiinbncnaaDoorAs
import Derived.Test.YtgpfkaiinbncnaaDoorArgs
import Derived.ChangeSame
import Derived.ChangeVars
import Derived.JoinedOf
import Derived.RowKit
import Derived.RowKitTokens
import Derived.LaidLaws
import Derived.LaidHandle
import Derived.Stop.Joined
namespace Go.Proofs.YtgpfkaiinbncnaaDoor
open Go.ChangeShapes Go.WideShapes Go.RowKit

theorem error_any (w : World) (x : Option Int) (k : Int) (hg : Hand w) :
    Calls Tryd.prog 9 #[errOf x, .int .i64 k] w fun e w' => e = .returned (.bool (decide (numOf x = k))) ∧ Fr [] w w' := by
  have HG := Lib.hid hg; clear hg
  go_enter Tryd.func9, Tryd.ntmps9
  go_wp2_with fail
  refine (told_any _ x HG.out).mono ?_
  rintro e w1 ⟨rfl, hf⟩
  have HF1 := Lib.hid hf; clear hf
  go_wp2
  go_ret
  refine ⟨?_, HF1.out⟩
  simp
  rw [Bool.eq_iff_iff]
  simp

namespace door
def laid : List (String × DataW Unit) := [("errors.errorType", Rows.laid_errors_errorType)]
theorem et : Tryd.prog.globalNamed "errors.errorType" = some 0 := by kernel_rfl
theorem rt : (Tryd.prog.cutTypes.find? (·.1 == "internal/reflectlite.rtype")).map (·.2) = some 153 := by kernel_rfl
theorem oneRow : ((List.range Tryd.prog.types.size).filter fun t => Tryd.prog.rowNamed t [101, 114, 114, 111, 114]) = [30] := by kernel_rfl

/-- what the condition gives a walk: the variable's one cell -/
theorem hand {W : World} (h : laidMetH Tryd.prog laid W) : Hand W := by
  have h' : laidMet Tryd.prog [] W ∧ handlesMet Tryd.prog laid W := h
  obtain ⟨name, u, ty, e1, e2, e3, e4, e5⟩ := h'.2 _ (List.mem_singleton.2 rfl)
  have en : name = [101, 114, 114, 111, 114] := (Option.some.inj e1).symm
  subst en
  obtain rfl := Option.some.inj (rt.symm.trans e2)
  have hm : ty ∈ (List.range Tryd.prog.types.size).filter fun t => Tryd.prog.rowNamed t [101, 114, 114, 111, 114] := List.mem_filter.2 ⟨List.mem_range.2 e3, e4⟩
  rw [oneRow] at hm
  obtain rfl := List.mem_singleton.1 hm
  have hh : typeHandle Tryd.prog 30 = .pointer (some ⟨1, 30, none⟩) := by kernel_rfl
  rw [hh] at e5
  unfold Hand
  simpa using World.var?_cell et e5 0

/-- a world that meets the condition: the settled one, the variable's cell laid -/
noncomputable def laidWorld (os : Os) : World :=
  let w0 := World.holding Tryd.prog os ⟨#[], #[], []⟩
  { w0 with heap := w0.heap.modify 0 fun
      | .cells _ t frozen => .cells #[.iface 153 (.agg #[.pointer (some ⟨1, 30, none⟩)])] t frozen
      | o => o }

theorem laidWorld_met (os : Os) (args : Array Value) : laidMetH Tryd.prog laid ((laidWorld os).forCall (fun _ _ => 0) ⟨#[], args, []⟩).memory :=
  laidMetH_of_parts (laidMet_nil _ _) (by kernel_rfl)
end door
end Go.Proofs.YtgpfkaiinbncnaaDoor
