/- lru.Misses: where it has a fault. -/
import Derived.Test.YthopnlnknicgbaaLru
namespace Go.Proofs.Ythopnlnknicgbaa
open Go.RowKit

set_option maxHeartbeats 1000000 in
theorem misses_bad (w : World) (a : Option Addr) (m c : Nat) (n : Int) (hno : ¬ LruOk n) :
    Calls Try.prog 25 #[.slice a m c, .int .i64 n] w fun e w' => e = .returned (.tuple #[.int .i64 0, .iface 53 (.int .i64 6)]) ∧ Fr [] w w' := by
  go_enter Try.func25, Try.ntmps25
  go_wp2_with fail
  refine (lru_new _ n).mono ?_
  rintro e w1 ⟨hf1, ⟨hyes, _⟩ | ⟨_, rfl⟩⟩
  · exact absurd hyes hno
  · have HF1 := Lib.hid hf1; clear hf1
    go_wp2
    go_ret2
    exact ⟨rfl, HF1.out⟩

set_option maxHeartbeats 1000000 in
theorem misses_full (w : World) (a : Option Addr) (m c : Nat) (n : Int) (hok : LruOk n) (hm : 500 < m) :
    Calls Try.prog 25 #[.slice a m c, .int .i64 n] w fun e w' => e = .returned (.tuple #[.int .i64 0, .iface 53 (.int .i64 7)]) ∧ Fr [] w w' := by
  go_enter Try.func25, Try.ntmps25
  go_wp2_with fail
  refine (lru_new _ n).mono ?_
  rintro e w1 ⟨hf1, ⟨_, p, rfl, _, _⟩ | ⟨hno, _⟩⟩
  · have HF1 := Lib.hid hf1; clear hf1
    go_wp2
    go_ret2
    exact ⟨rfl, HF1.out⟩
  · exact absurd hok hno

end Go.Proofs.Ythopnlnknicgbaa
