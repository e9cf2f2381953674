/- Idle of the reference: the first of those that have least. -/
import Derived.Test.YthopnlnknicgbaaDoorLeast
namespace Go.Proofs.YthopnlnknicgbaaDoor
open Go.RowKit

/-- the best one of the first k -/
def idl (f : Nat → Int) : Nat → Nat
  | 0 => 0
  | k + 1 => if f k < f (idl f k) then k else idl f k

theorem idl_spec (f : Nat → Int) (k : Nat) : (0 < k → idl f k < k) ∧ (∀ j, j < k → f (idl f k) ≤ f j) ∧ (∀ j, j < idl f k → f (idl f k) < f j) := by
  induction k with
  | zero => exact ⟨fun h => absurd h (Nat.lt_irrefl _), fun j h => absurd h (Nat.not_lt_zero _), fun j h => absurd h (Nat.not_lt_zero _)⟩
  | succ k ih =>
    obtain ⟨h1, h2, h3⟩ := ih
    unfold idl
    by_cases h : f k < f (idl f k)
    · simp only [if_pos h]
      refine ⟨fun _ => by omega, fun j hj => ?_, fun j hj => ?_⟩
      · by_cases hjk : j = k
        · subst hjk; omega
        · have := h2 j (by omega); omega
      · have := h2 j hj; omega
    · simp only [if_neg h]
      refine ⟨fun _ => ?_, fun j hj => ?_, h3⟩
      · by_cases h0 : 0 < k
        · have := h1 h0; omega
        · obtain rfl : k = 0 := by omega
          show 0 < 1
          omega
      · by_cases hjk : j = k
        · subst hjk; omega
        · exact h2 j (by omega)

theorem idl_lst (f : Nat → Int) (n : Nat) (hn : 0 < n) : idl f n = lst f n := by
  obtain ⟨h1, h2, h3⟩ := idl_spec f n
  obtain ⟨h4, h5⟩ := lst_spec f n hn
  have hm := mna_le (f 0) f n
  have hs := fst_spec f (mna (f 0) f n) n
  have e : f (lst f n) = mna (f 0) f n := hs.2 h4
  have h1' := h1 hn
  by_cases h6 : idl f n < lst f n
  · have := hs.1 _ h6
    have h7 := h2 _ h4
    have h8 := h5 _ h1'
    omega
  · by_cases h7 : lst f n < idl f n
    · have := h3 _ h7
      have := h5 _ h1'
      omega
    · omega

theorem idl_le (f : Nat → Int) (n k : Nat) (hk : k ≤ n) (hn : 0 < n) : idl f k < n := by
  by_cases h0 : 0 < k
  · have := (idl_spec f k).1 h0; omega
  · obtain rfl : k = 0 := by omega
    exact hn

set_option maxHeartbeats 1000000 in
theorem idle_any (w : World) (a : Option Addr) (n c : Nat) (f : Nat → Int) (hv : RdF w (.slice a n c) n (fun j => .int .i64 (f j))) (hn0 : 0 < n) (hn : n ≤ 1000) :
    Calls Tryd.prog 12 #[.slice a n c] w fun e w' => e = .returned (.int .i64 (lst f n)) ∧ Fr [] w w' := by
  obtain ⟨b1, o1, c1, he1, _, _, _, hc1⟩ := hv.shape hn0
  simp only [Value.slice.injEq, true_and] at he1
  obtain ⟨rfl, rfl⟩ := he1
  have HC := Lib.hid hc1
  clear hv hc1
  go_enter Tryd.func12, Tryd.ntmps12
  go_wp2
  go_loopw [3, 4] (fun best i wr => ∃ (k q : Nat), k ≤ n ∧ i = .int .i64 k ∧ best = .int .i64 (idl f k) ∧ wr = w.drewN q) (fun _ i _ => n - (intOf i).toNat)
  case atStart => exact ⟨0, 0, by omega, rfl, rfl, rfl⟩
  case round =>
    obtain ⟨k, q, hk, rfl, rfl, rfl⟩ := hrel
    by_cases hlt : k < n
    · have hb := idl_le f n k hk hn0
      have k1 := HC.out k hlt
      have k2 := HC.out (idl f k) hb
      have k0 : (0 : Int) ≤ (k : Int) := by omega
      have k3 : (k : Int) < (n : Int) := by omega
      have j0 : (0 : Int) ≤ (idl f k : Int) := by omega
      have j3 : (idl f k : Int) < (n : Int) := by omega
      have hsx : idl f (k + 1) = if f k < f (idl f k) then k else idl f k := rfl
      generalize idl f k = b at *
      by_cases hc : f k < f b
      · rw [if_pos hc] at hsx
        have HS := Lib.hid hsx; clear hsx
        go_wp2_with fail
        go_quiet (fail)
        go_wp2
        go_roundw
        case rel => exact ⟨k + 1, q + nq, by omega, by go_num, by rw [HS.out], rfl⟩
        case measure => simp [intOf]; omega
      · rw [if_neg hc] at hsx
        have HS := Lib.hid hsx; clear hsx
        go_wp2_with fail
        go_quiet (fail)
        go_wp2
        go_roundw
        case rel => exact ⟨k + 1, q + nq, by omega, by go_num, by rw [HS.out], rfl⟩
        case measure => simp [intOf]; omega
    · obtain rfl : k = n := by omega
      rw [idl_lst f k hn0]
      go_wp2
      go_ret
      exact ⟨rfl, (Fr.refl _ _).drewN _⟩

end Go.Proofs.YthopnlnknicgbaaDoor
