/- A health that comes in by value is opened. -/
import Derived.Test.YtlinembnfcdmcaaArgs
namespace Go.Proofs.Ytlinembnfcdmcaa
open Go.ChangeShapes Go.WideShapes Go.ChangeAt Go.RowKit

theorem arg_health {H : Type} {enc : TypeId × Value → H} {W : World} {base : Nat} {v : Value} {d : DataW H} {p : List MemPlace}
    (hok : Value.okWide Try.prog W .any base 42 v) (h : DataW.Trod enc Try.prog W 0 (fun _ => true) true 42 v d p) :
    ∃ (up : Bool) (run : Int), v = .agg #[.bool up, .int .i64 run] ∧ -9223372036854775808 ≤ run ∧ run ≤ 9223372036854775807 := by
  obtain ⟨c0, c1, y0, y1, m, rfl, _, _, h0, h1⟩ := Go.Joins.open_agg2 Try.underlying42 (by kernel_rfl) (by kernel_rfl) hok h
  obtain ⟨b, e0, _⟩ := DataW.trod_bool Try.underlying4 h0
  obtain ⟨x, e1, _, hw⟩ := DataW.trod_int Try.underlying3 h1
  simp at e0 e1
  subst e0 e1
  exact ⟨b, x, rfl, (bd_i64 hw).1, (bd_i64 hw).2⟩

end Go.Proofs.Ytlinembnfcdmcaa
