/- ring.Hash and ring.Four: what they compute. -/
import Derived.Test.YtbaiaolgjlhioaaDoorRows
import Derived.Test.YtbaiaolgjlhioaaDoorInfo
import Derived.Test.YtbaiaolgjlhioaaDoorHash0
namespace Go.Proofs.YtbaiaolgjlhioaaDoor
open Go.RowKit

/-- byte i of four of a number -/
def fo (n : Int) : Nat → Int
  | 0 => n / 16777216 % 256
  | 1 => n / 65536 % 256
  | 2 => n / 256 % 256
  | _ => n % 256

theorem fo_bd (n : Int) (i : Nat) : 0 ≤ fo n i ∧ fo n i ≤ 255 := by
  unfold fo; split <;> omega

theorem four_any (w : World) (n : Int) (h0 : 0 ≤ n) (h1 : n ≤ 4294967295) :
    Calls Tryd.prog 26 #[.int .i64 n] w fun e w' => e = .returned (.slice (some ⟨w.heap.size, 0, none⟩) 4 4) ∧ RowF w' w.heap.size 5 4 4 (fun i => .int .u8 (fo n i)) ∧ Fr [] w w' := by
  go_enter Tryd.func26, Tryd.ntmps26
  go_wp2
  go_ret
  refine ⟨rfl, row_lit w _ _ 4 _ rfl (by decide) (fun j hj => ?_), (Fr.refl _ _).alloc _⟩
  match j, hj with
  | 0, _ => simp only [fo]; rw [show n / 16777216 % 256 = n / 16777216 by omega]; rfl
  | 1, _ => rfl
  | 2, _ => rfl
  | 3, _ => rfl

end Go.Proofs.YtbaiaolgjlhioaaDoor
