/- Among of the reference. -/
import Derived.Test.YthopnlnknicgbaaDoorLruLaw
import Derived.Test.YthopnlnknicgbaaDoorGen
namespace Go.Proofs.YthopnlnknicgbaaDoor
open Go.RowKit

set_option maxHeartbeats 1000000 in
theorem among_any (w : World) (v : Value) (l : List Int) (x : Int) (hv : RdF w v l.length (fun j => .int .i64 (lg l j))) (hn : l.length ≤ 1000000) :
    Calls Tryd.prog 40 #[.int .i64 x, v] w fun e w' => e = .returned (.bool (decide (x ∈ l))) ∧ w' = w := by
  obtain ⟨a, c, rfl⟩ := hv.slice
  have HV := Lib.hid hv; clear hv
  have HL := Lib.hid (show ∀ k, k < l.length → lg l k = x → decide (x ∈ l) = true from fun k hk e => by
    rw [decide_eq_true_eq, ← e, lg_lt hk]
    exact List.getElem_mem hk)
  have HN := Lib.hid (show (∀ k, k < l.length → lg l k ≠ x) → decide (x ∈ l) = false from fun h => by
    rw [decide_eq_false_iff_not]
    intro hm
    obtain ⟨k, hk, e⟩ := List.getElem_of_mem hm
    exact h k hk (by rw [lg_lt hk]; exact e))
  generalize hm : l.length = m at *
  have HM := Lib.hid hm; clear hm
  go_enter Tryd.func40, Tryd.ntmps40
  go_wp2
  go_loopw [5] (fun i wr => ∃ k : Nat, k ≤ m ∧ i = .int .i64 k ∧ Hid (∀ j, j < k → lg l j ≠ x) ∧ wr = w) (fun i _ => m - (intOf i).toNat)
  case atStart => exact ⟨0, Nat.zero_le _, rfl, Lib.hid (fun j hj => absurd hj (Nat.not_lt_zero _)), rfl⟩
  case round =>
    obtain ⟨k, hk, rfl, HNE, hwr⟩ := hrel
    replace hwr := hwr.symm
    subst hwr
    by_cases hlt : k < m
    · obtain ⟨b, o, c', he, _, _, _, hc⟩ := HV.out.shape (by omega)
      simp only [Value.slice.injEq, true_and] at he
      obtain ⟨rfl, rfl⟩ := he
      have k1 := hc k hlt
      clear hc
      have k0 : (0 : Int) ≤ (k : Int) := by omega
      have k3 : (k : Int) < (m : Int) := by omega
      by_cases hx : lg l k = x
      · have HH := Lib.hid (HL.out k hlt hx)
        rw [hx] at k1
        clear hx
        go_wp2
        go_ret
        exact ⟨by rw [HH.out]; rfl, rfl⟩
      · have hb : (lg l k == x) = false := by simpa using hx
        have HNE2 := Lib.hid (show ∀ j, j < k + 1 → lg l j ≠ x from fun j hj => by
          by_cases hjk : j = k
          · subst hjk; exact hx
          · exact HNE.out j (by omega))
        go_wp2
        go_roundw
        case rel => exact ⟨k + 1, by omega, by go_num, HNE2, by trivial⟩
        case measure => simp [intOf]; omega
    · obtain rfl : k = m := by omega
      have HH := Lib.hid (HN.out HNE.out)
      go_wp2
      go_ret
      exact ⟨by rw [HH.out]; rfl, rfl⟩

end Go.Proofs.YthopnlnknicgbaaDoor
