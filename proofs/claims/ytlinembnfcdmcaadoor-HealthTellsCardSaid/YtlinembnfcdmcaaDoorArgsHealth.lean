/- A health that comes in by value is opened. -/
import Derived.Test.YtlinembnfcdmcaaDoorArgs
namespace Go.Proofs.YtlinembnfcdmcaaDoor
open Go.ChangeShapes Go.WideShapes Go.ChangeAt Go.RowKit

set_option maxRecDepth 100000 in
theorem arg_health {H : Type} {enc : TypeId × Value → H} {W : World} {base : Nat} {v : Value} {d : DataW H} {p : List MemPlace}
    (hok : Value.okWide Tryd.prog W .any base 54 v) (h : DataW.Trod enc Tryd.prog W 0 (fun _ => true) true 54 v d p) :
    ∃ (up : Bool) (run : Int), v = .agg #[.bool up, .int .i64 run] ∧ -9223372036854775808 ≤ run ∧ run ≤ 9223372036854775807 := by
  obtain ⟨c0, c1, y0, y1, m, rfl, _, _, h0, h1⟩ := Go.Joins.open_agg2 Tryd.underlying54 (by kernel_rfl) (by kernel_rfl) hok h
  obtain ⟨b, e0, _⟩ := DataW.trod_bool Tryd.underlying4 h0
  obtain ⟨x, e1, _, hw⟩ := DataW.trod_int Tryd.underlying3 h1
  simp at e0 e1
  subst e0 e1
  exact ⟨b, x, rfl, (bd_i64 hw).1, (bd_i64 hw).2⟩

end Go.Proofs.YtlinembnfcdmcaaDoor
