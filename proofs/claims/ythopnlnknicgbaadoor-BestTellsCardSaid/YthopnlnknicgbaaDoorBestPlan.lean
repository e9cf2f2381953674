/- best.Misses and best.Plan, with every fault. -/
import Derived.Test.YthopnlnknicgbaaDoorBest
namespace Go.Proofs.YthopnlnknicgbaaDoor
open Go.RowKit

set_option maxHeartbeats 1000000 in
theorem best_full (w : World) (a : Option Addr) (m c : Nat) (n : Int) (hok : BOk n) (hm : 500 < m) :
    Calls Tryd.prog 44 #[.slice a m c, .int .i64 n] w fun e w' => e = .returned (.tuple #[.int .i64 0, .iface 24 (.int .i64 7)]) ∧ Fr [] w w' := by
  unfold BOk at hok
  go_enter Tryd.func44, Tryd.ntmps44
  go_wp2
  go_ret2
  exact ⟨rfl, Fr.refl _ _⟩

set_option maxHeartbeats 1000000 in
theorem plan_full (w : World) (a : Option Addr) (m c : Nat) (n : Int) (hok : BOk n) (hm : 500 < m) :
    Calls Tryd.prog 45 #[.slice a m c, .int .i64 n] w fun e w' => e = .returned (.tuple #[.slice none 0 0, .iface 24 (.int .i64 7)]) ∧ Fr [] w w' := by
  unfold BOk at hok
  go_enter Tryd.func45, Tryd.ntmps45
  go_wp2
  go_ret2
  exact ⟨rfl, Fr.refl _ _⟩

set_option maxHeartbeats 1000000 in
theorem plan_bad (w : World) (a : Option Addr) (m c : Nat) (n : Int) (hno : ¬ BOk n) :
    Calls Tryd.prog 45 #[.slice a m c, .int .i64 n] w fun e w' => e = .returned (.tuple #[.slice none 0 0, .iface 24 (.int .i64 6)]) ∧ Fr [] w w' := by
  unfold BOk at hno
  have hc : n < 1 ∨ (1 ≤ n ∧ 64 < n) := by omega
  clear hno
  rcases hc with h1 | ⟨h1, h2⟩
  all_goals
    go_enter Tryd.func45, Tryd.ntmps45
    go_wp2
    go_ret2
    exact ⟨rfl, Fr.refl _ _⟩

set_option maxHeartbeats 1000000 in
theorem plan_ok (w : World) (a : Option Addr) (m c : Nat) (kf : Nat → Int) (hv : RdF w (.slice a m c) m (fun j => .int .i64 (kf j))) (n : Nat) (hn : 1 ≤ n ∧ n ≤ 64) (hm : m ≤ 500) :
    Calls Tryd.prog 45 #[.slice a m c, .int .i64 n] w fun e w' => ∃ u, e = .returned (.tuple #[u, .nilIface]) ∧ OwnF w' w.heap.size 3 u (pgo kf m n m).length (fun j => .int .i64 (lg (pgo kf m n m) j)) ∧ Fr [] w w' := by
  have HP := Lib.hid (plan_any w a m c kf n hv (by omega) (by omega))
  clear hv
  go_enter Tryd.func45, Tryd.ntmps45
  go_wp2_with (go_at_call 59; go_in)
  refine HP.out.mono ?_
  rintro e w1 ⟨u, rfl, ho1, hf1⟩
  have HF1 := Lib.hid hf1
  have HO1 := Lib.hid ho1
  clear hf1 ho1
  go_wp2
  go_ret2
  exact ⟨_, rfl, HO1.out, HF1.out⟩

end Go.Proofs.YthopnlnknicgbaaDoor
