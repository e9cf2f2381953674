/- heavy.Seen. -/
import Derived.Test.YtgpfkaiinbncnaaDoorHeavy
namespace Go.Proofs.YtgpfkaiinbncnaaDoor
open Go.RowKit Go.Maps

theorem heavySeen_any (w : World) (p b k i : Nat) (L : List (Int × Int)) (h : Hv w p b k i L) : Calls Tryd.prog 34 #[.pointer (some ⟨p, 0, none⟩)] w fun e w' => e = .returned (.int .i64 i) ∧ w = w' := by
  have c2 := blk_cell h.blk 2 rfl
  clear h
  go_enter Tryd.func34, Tryd.ntmps34
  go_wp2
  go_ret
  exact ⟨rfl, rfl⟩
end Go.Proofs.YtgpfkaiinbncnaaDoor
