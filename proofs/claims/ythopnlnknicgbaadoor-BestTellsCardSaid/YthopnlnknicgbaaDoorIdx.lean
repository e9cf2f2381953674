/- slices.Index and slices.Min at []int, told by functions. -/
import Derived.Test.YthopnlnknicgbaaDoorGen
import Derived.Test.YthopnlnknicgbaaDoorRows
namespace Go.Proofs.YthopnlnknicgbaaDoor
open Go.RowKit

/-- the first place of x among f 0 .. f (k-1); k where it is none of them -/
def fst (f : Nat → Int) (x : Int) : Nat → Nat
  | 0 => 0
  | k + 1 => if fst f x k < k then fst f x k else if f k = x then k else k + 1

theorem fst_le (f : Nat → Int) (x : Int) (k : Nat) : fst f x k ≤ k := by
  induction k with
  | zero => exact Nat.le_refl _
  | succ k ih => unfold fst; split; · omega
                 · split <;> omega

theorem fst_spec (f : Nat → Int) (x : Int) (k : Nat) : (∀ j, j < fst f x k → f j ≠ x) ∧ (fst f x k < k → f (fst f x k) = x) := by
  induction k with
  | zero => exact ⟨fun j hj => absurd hj (Nat.not_lt_zero _), fun h => absurd h (Nat.not_lt_zero _)⟩
  | succ k ih =>
    have hle := fst_le f x k
    unfold fst
    by_cases h : fst f x k < k
    · rw [if_pos h]; exact ⟨ih.1, fun _ => ih.2 h⟩
    · rw [if_neg h]
      have e : fst f x k = k := by omega
      by_cases h2 : f k = x
      · rw [if_pos h2]; exact ⟨fun j hj => ih.1 j (by omega), fun _ => h2⟩
      · rw [if_neg h2]
        refine ⟨fun j hj => ?_, fun h => absurd h (Nat.lt_irrefl _)⟩
        by_cases h3 : j = k
        · subst h3; exact h2
        · exact ih.1 j (by omega)

theorem fst_hit (f : Nat → Int) (x : Int) (n k : Nat) (hk : k < n) (h : f k = x) (hn : ∀ j, j < k → f j ≠ x) : fst f x n = k := by
  have hs := fst_spec f x n
  have hl := fst_le f x n
  by_cases h1 : fst f x n < k
  · exact absurd (hs.2 (by omega)) (hn _ h1)
  · by_cases h2 : k < fst f x n
    · exact absurd h (hs.1 k h2)
    · omega

theorem fst_miss (f : Nat → Int) (x : Int) (n : Nat) (hn : ∀ j, j < n → f j ≠ x) : fst f x n = n := by
  have hs := fst_spec f x n
  have hl := fst_le f x n
  by_cases h1 : fst f x n < n
  · exact absurd (hs.2 h1) (hn _ h1)
  · omega

/-- what slices.Index tells -/
def idx (f : Nat → Int) (x : Int) (n : Nat) : Int := if fst f x n < n then (fst f x n : Int) else -1

set_option maxHeartbeats 1000000 in
theorem index_any (w : World) (v : Value) (n : Nat) (f : Nat → Int) (x : Int) (hv : RdF w v n (fun j => .int .i64 (f j))) (hn : n ≤ 9223372036854775807) :
    Calls Tryd.prog 47 #[v, .int .i64 x] w fun e w' => e = .returned (.int .i64 (idx f x n)) ∧ w' = w := by
  obtain ⟨a, c, rfl⟩ := hv.slice
  have HV := Lib.hid hv; clear hv
  go_enter Tryd.func47, Tryd.ntmps47
  go_wp2
  go_loopw [5, 8] (fun _ i wr => ∃ k : Nat, k ≤ n ∧ i = .int .i64 k ∧ Hid (∀ j, j < k → f j ≠ x) ∧ wr = w) (fun _ i _ => n - (intOf i).toNat)
  case atStart => exact ⟨0, Nat.zero_le _, rfl, Lib.hid (fun j hj => absurd hj (Nat.not_lt_zero _)), rfl⟩
  case round =>
    obtain ⟨k, hk, rfl, HNE, rfl⟩ := hrel
    by_cases hlt : k < n
    · obtain ⟨b, o, c', he, _, _, _, hc⟩ := HV.out.shape (by omega)
      simp only [Value.slice.injEq, true_and] at he
      obtain ⟨rfl, rfl⟩ := he
      have k1 := hc k hlt
      clear hc
      have k0 : (0 : Int) ≤ (k : Int) := by omega
      have k3 : (k : Int) < (n : Int) := by omega
      by_cases hx : f k = x
      · have hh := fst_hit f x n k hlt hx HNE.out
        have HH := Lib.hid (show idx f x n = (k : Int) by unfold idx; rw [hh, if_pos hlt]); clear hh
        have hx2 : (x == f k) = true := by simp [hx]
        clear hx
        go_wp2
        go_ret
        exact ⟨by rw [HH.out]; rfl, rfl⟩
      · have hx2 : (x == f k) = false := by simp; omega
        have HNE2 := Lib.hid (show ∀ j, j < k + 1 → f j ≠ x from fun j hj => by
          by_cases h3 : j = k
          · subst h3; exact hx
          · exact HNE.out j (by omega))
        clear hx
        go_wp2
        go_roundw
        case rel => exact ⟨k + 1, by omega, by go_num, HNE2, by trivial⟩
        case measure => simp [intOf]; omega
    · obtain rfl : k = n := by omega
      have HH := Lib.hid (show idx f x k = -1 by unfold idx; rw [fst_miss f x k HNE.out, if_neg (by omega)])
      go_wp2
      go_ret
      exact ⟨by rw [HH.out]; rfl, rfl⟩

/-- the least of a and f 0 .. f (k-1) -/
def mna (a : Int) (f : Nat → Int) : Nat → Int
  | 0 => a
  | k + 1 => min (mna a f k) (f k)

theorem mna_succ (a : Int) (f : Nat → Int) (k : Nat) : (if f k < mna a f k then f k else mna a f k) = mna a f (k + 1) := by
  show _ = min (mna a f k) (f k)
  split <;> omega

/-- the greatest of a and f 0 .. f (k-1) -/
def mxa (a : Int) (f : Nat → Int) : Nat → Int
  | 0 => a
  | k + 1 => max (mxa a f k) (f k)

theorem mxa_succ (a : Int) (f : Nat → Int) (k : Nat) : (if mxa a f k < f k then f k else mxa a f k) = mxa a f (k + 1) := by
  show _ = max (mxa a f k) (f k)
  split <;> omega

theorem mna_le (a : Int) (f : Nat → Int) (k : Nat) : mna a f k ≤ a ∧ ∀ j, j < k → mna a f k ≤ f j := by
  induction k with
  | zero => exact ⟨Int.le_refl _, fun j hj => by omega⟩
  | succ k ih =>
    unfold mna
    refine ⟨by omega, fun j hj => ?_⟩
    by_cases h : j = k
    · subst h; omega
    · have := ih.2 j (by omega); omega

theorem mna_mem (a : Int) (f : Nat → Int) (k : Nat) : mna a f k = a ∨ ∃ j, j < k ∧ f j = mna a f k := by
  induction k with
  | zero => exact .inl rfl
  | succ k ih =>
    unfold mna
    by_cases h : f k < mna a f k
    · right; exact ⟨k, by omega, by omega⟩
    · rcases ih with ih | ⟨j, hj, e⟩
      · left; omega
      · right; exact ⟨j, by omega, by omega⟩

theorem mxa_le (a : Int) (f : Nat → Int) (k : Nat) : a ≤ mxa a f k ∧ ∀ j, j < k → f j ≤ mxa a f k := by
  induction k with
  | zero => exact ⟨Int.le_refl _, fun j hj => by omega⟩
  | succ k ih =>
    unfold mxa
    refine ⟨by omega, fun j hj => ?_⟩
    by_cases h : j = k
    · subst h; omega
    · have := ih.2 j (by omega); omega

theorem mxa_mem (a : Int) (f : Nat → Int) (k : Nat) : mxa a f k = a ∨ ∃ j, j < k ∧ f j = mxa a f k := by
  induction k with
  | zero => exact .inl rfl
  | succ k ih =>
    unfold mxa
    by_cases h : mxa a f k < f k
    · right; exact ⟨k, by omega, by omega⟩
    · rcases ih with ih | ⟨j, hj, e⟩
      · left; omega
      · right; exact ⟨j, by omega, by omega⟩

set_option maxHeartbeats 2000000 in
set_option maxRecDepth 100000 in
theorem min_any (w : World) (v : Value) (n : Nat) (f : Nat → Int) (hv : RdF w v n (fun j => .int .i64 (f j))) (hn0 : 0 < n) (hn : n ≤ 9223372036854775807) :
    Calls Tryd.prog 48 #[v] w fun e w' => e = .returned (.int .i64 (mna (f 0) f n)) ∧ w' = w := by
  obtain ⟨b, o, c, rfl, _, _, _, hc⟩ := hv.shape hn0
  have h0 : w.cell? ⟨b, o, none⟩ = some (.int .i64 (f 0)) := by simpa using hc 0 (by omega)
  have HC := Lib.hid hc; clear hc hv
  go_enter Tryd.func48, Tryd.ntmps48
  go_wp2
  go_loop [3, 4] (fun m i => ∃ k : Nat, 0 < k ∧ k ≤ n ∧ i = .int .i64 k ∧ m = .int .i64 (mna (f 0) f k)) (fun _ i => n - (intOf i).toNat)
  case atStart => exact ⟨1, Nat.one_pos, hn0, rfl, by simp [mna]⟩
  case round =>
    obtain ⟨k, hk0, hk, rfl, rfl⟩ := hrel
    by_cases hlt : k < n
    · have k1 := HC.out k hlt
      have k2 : (0 : Int) ≤ (k : Int) := by omega
      have k3 : (k : Int) < (n : Int) := by omega
      go_wp2
      refine ⟨⟨k + 1, Nat.succ_pos k, by omega, by go_num, ?_⟩, ?_⟩
      · rw [mna_succ]
      · simp [intOf]; omega
    · obtain rfl : k = n := by omega
      go_wp2
      go_ret
      exact ⟨rfl, rfl⟩

end Go.Proofs.YthopnlnknicgbaaDoor
