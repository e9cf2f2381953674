/- slices.Min at []int, told by functions. -/
import Derived.Test.YtgpfkaiinbncnaaDoorGen
import Derived.Test.YtgpfkaiinbncnaaDoorRows
namespace Go.Proofs.YtgpfkaiinbncnaaDoor
open Go.RowKit

/-- the least of a and f 0 .. f (k-1) -/
def mna (a : Int) (f : Nat → Int) : Nat → Int
  | 0 => a
  | k + 1 => min (mna a f k) (f k)

theorem mna_succ (a : Int) (f : Nat → Int) (k : Nat) : (if f k < mna a f k then f k else mna a f k) = mna a f (k + 1) := by
  show _ = min (mna a f k) (f k)
  split <;> omega

/-- the greatest of a and f 0 .. f (k-1) -/
def mxa (a : Int) (f : Nat → Int) : Nat → Int
  | 0 => a
  | k + 1 => max (mxa a f k) (f k)

theorem mxa_succ (a : Int) (f : Nat → Int) (k : Nat) : (if mxa a f k < f k then f k else mxa a f k) = mxa a f (k + 1) := by
  show _ = max (mxa a f k) (f k)
  split <;> omega

theorem mna_le (a : Int) (f : Nat → Int) (k : Nat) : mna a f k ≤ a ∧ ∀ j, j < k → mna a f k ≤ f j := by
  induction k with
  | zero => exact ⟨Int.le_refl _, fun j hj => by omega⟩
  | succ k ih =>
    unfold mna
    refine ⟨by omega, fun j hj => ?_⟩
    by_cases h : j = k
    · subst h; omega
    · have := ih.2 j (by omega); omega

theorem mna_mem (a : Int) (f : Nat → Int) (k : Nat) : mna a f k = a ∨ ∃ j, j < k ∧ f j = mna a f k := by
  induction k with
  | zero => exact .inl rfl
  | succ k ih =>
    unfold mna
    by_cases h : f k < mna a f k
    · right; exact ⟨k, by omega, by omega⟩
    · rcases ih with ih | ⟨j, hj, e⟩
      · left; omega
      · right; exact ⟨j, by omega, by omega⟩

theorem mxa_le (a : Int) (f : Nat → Int) (k : Nat) : a ≤ mxa a f k ∧ ∀ j, j < k → f j ≤ mxa a f k := by
  induction k with
  | zero => exact ⟨Int.le_refl _, fun j hj => by omega⟩
  | succ k ih =>
    unfold mxa
    refine ⟨by omega, fun j hj => ?_⟩
    by_cases h : j = k
    · subst h; omega
    · have := ih.2 j (by omega); omega

theorem mxa_mem (a : Int) (f : Nat → Int) (k : Nat) : mxa a f k = a ∨ ∃ j, j < k ∧ f j = mxa a f k := by
  induction k with
  | zero => exact .inl rfl
  | succ k ih =>
    unfold mxa
    by_cases h : mxa a f k < f k
    · right; exact ⟨k, by omega, by omega⟩
    · rcases ih with ih | ⟨j, hj, e⟩
      · left; omega
      · right; exact ⟨j, by omega, by omega⟩

theorem mxa_bound (a : Int) (f : Nat → Int) (k : Nat) (lo hi : Int) (ha : lo ≤ a ∧ a ≤ hi) (h : ∀ j, j < k → lo ≤ f j ∧ f j ≤ hi) : lo ≤ mxa a f k ∧ mxa a f k ≤ hi := by
  rcases mxa_mem a f k with e | ⟨j, hj, e⟩
  · omega
  · have := h j hj; omega

theorem mna_bound (a : Int) (f : Nat → Int) (k : Nat) (lo hi : Int) (ha : lo ≤ a ∧ a ≤ hi) (h : ∀ j, j < k → lo ≤ f j ∧ f j ≤ hi) : lo ≤ mna a f k ∧ mna a f k ≤ hi := by
  rcases mna_mem a f k with e | ⟨j, hj, e⟩
  · omega
  · have := h j hj; omega

set_option maxHeartbeats 2000000 in
set_option maxRecDepth 100000 in
theorem min_any (w : World) (v : Value) (n : Nat) (f : Nat → Int) (hv : RdF w v n (fun j => .int .i64 (f j))) (hn0 : 0 < n) (hn : n ≤ 9223372036854775807) :
    Calls Tryd.prog 42 #[v] w fun e w' => e = .returned (.int .i64 (mna (f 0) f n)) ∧ w' = w := by
  obtain ⟨b, o, c, rfl, _, _, _, hc⟩ := hv.shape hn0
  have h0 : w.cell? ⟨b, o, none⟩ = some (.int .i64 (f 0)) := by simpa using hc 0 (by omega)
  have HC := Lib.hid hc; clear hc hv
  go_enter Tryd.func42, Tryd.ntmps42
  go_wp2
  go_loop [3, 4] (fun m i => ∃ k : Nat, 0 < k ∧ k ≤ n ∧ i = .int .i64 k ∧ m = .int .i64 (mna (f 0) f k)) (fun _ i => n - (intOf i).toNat)
  case atStart => exact ⟨1, Nat.one_pos, hn0, rfl, by simp [mna]⟩
  case round =>
    obtain ⟨k, hk0, hk, rfl, rfl⟩ := hrel
    by_cases hlt : k < n
    · have k1 := HC.out k hlt
      have k2 : (0 : Int) ≤ (k : Int) := by omega
      have k3 : (k : Int) < (n : Int) := by omega
      go_wp2
      refine ⟨⟨k + 1, Nat.succ_pos k, by omega, by go_num, ?_⟩, ?_⟩
      · rw [mna_succ]
      · simp [intOf]; omega
    · obtain rfl : k = n := by omega
      go_wp2
      go_ret
      exact ⟨rfl, rfl⟩

end Go.Proofs.YtgpfkaiinbncnaaDoor
