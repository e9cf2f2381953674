/- RoomFault of the reference. -/
import Derived.Test.YthopnlnknicgbaaDoorLru
namespace Go.Proofs.YthopnlnknicgbaaDoor
open Go.RowKit

/-- what the reference says of a room, and of how many keys there are -/
def rft (m : Nat) (n : Int) : Int := if 1 ≤ n ∧ n ≤ 64 then (if 500 < m then 7 else 0) else 6
theorem rft_bad {m : Nat} {n : Int} (h : ¬ LruOk n) : rft m n = 6 := if_neg h
theorem rft_full {m : Nat} {n : Int} (h : LruOk n) (hm : 500 < m) : rft m n = 7 := (if_pos h).trans (if_pos hm)
theorem rft_ok {m : Nat} {n : Int} (h : LruOk n) (hm : ¬ 500 < m) : rft m n = 0 := (if_pos h).trans (if_neg hm)

set_option maxHeartbeats 1000000 in
theorem roomFault_any (w : World) (a : Option Addr) (m c : Nat) (n : Int) :
    Calls Tryd.prog 34 #[.slice a m c, .int .i64 n] w fun e w' => e = .returned (.int .i64 (rft m n)) ∧ w' = w := by
  by_cases hok : LruOk n
  · by_cases hm : 500 < m
    · have E := Lib.hid (rft_full hok hm)
      unfold LruOk at hok
      go_enter Tryd.func34, Tryd.ntmps34
      go_wp2
      go_ret
      exact ⟨by rw [E.out]; rfl, rfl⟩
    · have E := Lib.hid (rft_ok hok hm)
      unfold LruOk at hok
      go_enter Tryd.func34, Tryd.ntmps34
      go_wp2
      go_ret
      exact ⟨by rw [E.out]; rfl, rfl⟩
  · have E := Lib.hid (rft_bad (m := m) hok)
    unfold LruOk at hok
    have hc : n < 1 ∨ (1 ≤ n ∧ 64 < n) := by omega
    clear hok
    rcases hc with h1 | ⟨h1, h2⟩
    all_goals
      go_enter Tryd.func34, Tryd.ntmps34
      go_wp2
      go_ret
      exact ⟨by rw [E.out]; rfl, rfl⟩

end Go.Proofs.YthopnlnknicgbaaDoor
