/- best.Misses, and the law that each law over best begins with. -/
import Derived.Test.YthopnlnknicgbaaDoorPlan
namespace Go.Proofs.YthopnlnknicgbaaDoor
open Go.RowKit

def BOk (n : Int) : Prop := 1 ≤ n ∧ n ≤ 64

set_option maxHeartbeats 1000000 in
theorem best_misses (w : World) (a : Option Addr) (m c : Nat) (kf : Nat → Int) (hv : RdF w (.slice a m c) m (fun j => .int .i64 (kf j))) (n : Nat) (hn : 1 ≤ n ∧ n ≤ 64) (hm : m ≤ 500) :
    Calls Tryd.prog 44 #[.slice a m c, .int .i64 n] w fun e w' => e = .returned (.tuple #[.int .i64 (pmi kf m n m), .nilIface]) ∧ Fr [] w w' := by
  have HP := Lib.hid (plan_any w a m c kf n hv (by omega) (by omega))
  clear hv
  go_enter Tryd.func44, Tryd.ntmps44
  go_wp2_with (go_at_call 59; go_in)
  refine HP.out.mono ?_
  rintro e w1 ⟨u, rfl, _, hf1⟩
  have HF1 := Lib.hid hf1; clear hf1
  go_wp2
  go_ret2
  exact ⟨rfl, HF1.out⟩

set_option maxHeartbeats 1000000 in
theorem best_bad (w : World) (a : Option Addr) (m c : Nat) (n : Int) (hno : ¬ BOk n) :
    Calls Tryd.prog 44 #[.slice a m c, .int .i64 n] w fun e w' => e = .returned (.tuple #[.int .i64 0, .iface 24 (.int .i64 6)]) ∧ Fr [] w w' := by
  unfold BOk at hno
  have hc : n < 1 ∨ (1 ≤ n ∧ 64 < n) := by omega
  clear hno
  rcases hc with h1 | ⟨h1, h2⟩
  all_goals
    go_enter Tryd.func44, Tryd.ntmps44
    go_wp2
    go_ret2
    exact ⟨rfl, Fr.refl _ _⟩

set_option maxHeartbeats 1000000 in
theorem planned_any (w : World) : Calls Tryd.prog 42 #[] w fun e w' => e = .returned (.bool true) ∧ Fr [] w w' := by
  have hrow := row_lit w #[.int .i64 1, .int .i64 2, .int .i64 3, .int .i64 1, .int .i64 2] 3 5 (fun j => .int .i64 (lg [1, 2, 3, 1, 2] j)) rfl (by decide) (fun j hj => match j, hj with | 0, _ => rfl | 1, _ => rfl | 2, _ => rfl | 3, _ => rfl | 4, _ => rfl)
  have HB := Lib.hid (best_misses (w.alloc (.cells #[.int .i64 1, .int .i64 2, .int .i64 3, .int .i64 1, .int .i64 2] 3)) _ 5 5 (lg [1, 2, 3, 1, 2]) hrow.rd 2 (by omega) (by omega))
  clear hrow
  have e4 : pmi (lg [1, 2, 3, 1, 2]) 5 2 5 = 4 := by decide
  rw [e4] at HB
  clear e4
  go_enter Tryd.func42, Tryd.ntmps42
  go_wp2_with fail
  refine HB.out.mono ?_
  rintro e w1 ⟨rfl, hf1⟩
  have HF1 := Lib.hid (((Fr.refl [] w).alloc _).trans hf1 (S := []) (by simp)); clear hf1
  go_wp2
  go_ret
  exact ⟨rfl, HF1.out⟩

end Go.Proofs.YthopnlnknicgbaaDoor
