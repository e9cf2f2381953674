/- Next, Planned of the reference: what each does. -/
import Derived.Test.YthopnlnknicgbaaDoorAmong
import Derived.Test.YthopnlnknicgbaaDoorPlan
import Derived.Test.YthopnlnknicgbaaDoorWithout
import Derived.Test.YthopnlnknicgbaaDoorPlannedLaw
namespace Go.Proofs.YthopnlnknicgbaaDoor
open Go.RowKit

set_option maxHeartbeats 1000000 in
theorem next_any (w : World) (a : Option Addr) (m c : Nat) (kf : Nat → Int) (hv : RdF w (.slice a m c) m (fun j => .int .i64 (kf j))) (t : Nat) (ht : t < m) (hm : m ≤ 1000) (x : Int) :
    Calls Tryd.prog 57 #[.slice a m c, .int .i64 t, .int .i64 x] w fun e w' => e = .returned (.int .i64 (t + 1 + agn kf m t x : Nat)) ∧ w' = w := by
  obtain ⟨b1, o1, c1, he1, _, _, _, hc1⟩ := hv.shape (by omega)
  simp only [Value.slice.injEq, true_and] at he1
  obtain ⟨rfl, rfl⟩ := he1
  have HC := Lib.hid hc1
  clear hv hc1
  obtain ⟨R, rfl⟩ : ∃ R, m = t + 1 + R := ⟨m - (t + 1), by omega⟩
  have HA := Lib.hid (show agn kf (t + 1 + R) t x = fst (fun j => kf (t + 1 + j)) x R from by unfold agn; rw [Nat.add_sub_cancel_left])
  go_enter Tryd.func57, Tryd.ntmps57
  go_wp2
  go_loopw [7] (fun i wr => ∃ r : Nat, r ≤ R ∧ i = .int .i64 (t + 1 + r : Nat) ∧ Hid (∀ j, j < r → kf (t + 1 + j) ≠ x) ∧ wr = w) (fun i _ => t + 1 + R - (intOf i).toNat)
  case atStart => exact ⟨0, Nat.zero_le _, by go_num, Lib.hid (fun j hj => absurd hj (Nat.not_lt_zero _)), rfl⟩
  case round =>
    obtain ⟨r, hr, rfl, HNE, hwr⟩ := hrel
    replace hwr := hwr.symm
    subst hwr
    by_cases hlt : r < R
    · have k1 := HC.out (t + 1 + r) (by omega)
      have hkx : ∀ i, i = t + 1 + r → kf i = kf (t + 1 + r) := fun i hi => by rw [hi]
      obtain ⟨i, hi⟩ : ∃ i, i = t + 1 + r := ⟨_, rfl⟩
      rw [← hi] at k1 ⊢
      have k0 : (0 : Int) ≤ (i : Int) := by omega
      have k3 : (i : Int) < ((t + 1 + R : Nat) : Int) := by omega
      have k4 : (i : Int) < (t : Int) + 1 + (R : Int) := by omega
      have HI := Lib.hid hi
      clear hkx
      by_cases hx : kf i = x
      · have HF := Lib.hid (fst_hit (fun j => kf (t + 1 + j)) x R r hlt (by rw [← hi]; exact hx) HNE.out)
        rw [hx] at k1
        clear hx hi
        go_wp2
        go_ret
        exact ⟨by rw [HA.out, HF.out, ← HI.out]; rfl, rfl⟩
      · have hb : (kf i == x) = false := by simpa using hx
        have HNE2 := Lib.hid (show ∀ j, j < r + 1 → kf (t + 1 + j) ≠ x from fun j hj => by
          by_cases hjk : j = r
          · subst hjk; rw [← hi]; exact hx
          · exact HNE.out j (by omega))
        clear hi
        go_wp2
        go_roundw
        case rel => exact ⟨r + 1, by omega, by rw [HI.out]; go_num, HNE2, by trivial⟩
        case measure => have := HI.out; simp [intOf]; omega
    · obtain rfl : r = R := by omega
      have HF := Lib.hid (fst_miss (fun j => kf (t + 1 + j)) x r HNE.out)
      go_wp2
      go_ret
      exact ⟨by rw [HA.out, HF.out]; rfl, rfl⟩

end Go.Proofs.YthopnlnknicgbaaDoor
