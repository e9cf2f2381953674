/- edns.Find, whatever the records. -/
import Derived.Test.YtkdmkpdooiacaaaDoorZFindW
namespace Go.Proofs.YtkdmkpdooiacaaaDoor
open Go.RowKit

theorem findAll_any (w : World) (B : HB) (m : Ms) (vq va vu vm : Value) (hm : MsOk B w m vq va vu vm) (hsm : ∀ i, i < m.mn → (m.M i).dl ≤ 1099511627776) : FindSays m vq va vu vm (optDo m) (optZ m) w := by
  by_cases hi : optIx m.M m.mn < m.mn
  · exact find_some w B m vq va vu vm hm hi (hsm _ hi)
  · have h1 := optIx_le m.M m.mn
    have e1 : optZ m = 0 := by unfold optZ; rw [if_pos (by omega)]
    have e2 : optDo m = false := by unfold optDo; rw [decide_eq_false hi]; rfl
    rw [e1, e2]
    exact find_none w B m vq va vu vm hm (by omega)

end Go.Proofs.YtkdmkpdooiacaaaDoor
