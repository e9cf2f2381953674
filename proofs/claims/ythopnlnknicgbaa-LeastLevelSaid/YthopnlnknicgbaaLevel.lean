/- LeastLevel: the plain law. -/
import Derived.Test.YthopnlnknicgbaaIdx
import Derived.Test.YthopnlnknicgbaaLeast
namespace Go.Proofs.Ythopnlnknicgbaa

def Level (f : Nat → Int) (n k : Nat) : Prop := (∀ i j, i < n → j < n → f i ≤ f j + 1) ∧ ∀ j, j < n → 0 ≤ f j ∧ f j ≤ k

theorem level_zero (n : Nat) : Level (fun _ => 0) n 0 := ⟨fun _ _ _ _ => by simp, fun _ _ => by simp⟩

theorem level_mono {f : Nat → Int} {n k : Nat} (h : Level f n k) : Level f n (k + 1) := ⟨h.1, fun j hj => by have := h.2 j hj; omega⟩

theorem level_start {f : Nat → Int} {n k : Nat} (h : Level f n k) (hn : 0 < n) : Level (fun j => if j = lst f n then f (lst f n) + 1 else f j) n (k + 1) := by
  obtain ⟨hl, hm⟩ := lst_spec f n hn
  refine ⟨fun i j hi hj => ?_, fun j hj => ?_⟩
  · have h1 := h.1 i j hi hj
    have h2 := hm i hi
    have h3 := hm j hj
    have h4 := h.1 i (lst f n) hi hl
    by_cases e1 : i = lst f n <;> by_cases e2 : j = lst f n <;> simp [e1, e2] <;> omega
  · have h1 := h.2 j hj
    have h2 := h.2 _ hl
    by_cases e1 : j = lst f n <;> simp [e1] <;> omega

theorem level_end {f : Nat → Int} {n k q : Nat} (h : Level f n k) (hq : q < n) (hh : f q = mxa 0 f n) (h0 : 0 < f q) : Level (fun j => if j = q then f q - 1 else f j) n (k + 1) := by
  have hm := (mxa_le 0 f n).2
  refine ⟨fun i j hi hj => ?_, fun j hj => ?_⟩
  · have h1 := h.1 i j hi hj
    have h2 := hm i hi
    have h3 := hm j hj
    have h4 := h.1 q j hq hj
    by_cases e1 : i = q <;> by_cases e2 : j = q <;> simp [e1, e2] <;> omega
  · have h1 := h.2 j hj
    have h2 := h.2 _ hq
    by_cases e1 : j = q <;> simp [e1] <;> omega

theorem level_told {f : Nat → Int} {n k : Nat} (h : Level f n k) (hn : 0 < n) : mxa (f 0) f n ≤ mna (f 0) f n + 1 := by
  have h1 : ∃ i, i < n ∧ f i = mxa (f 0) f n := by
    rcases mxa_mem (f 0) f n with h | h
    · exact ⟨0, hn, h.symm⟩
    · exact h
  have h2 : ∃ i, i < n ∧ f i = mna (f 0) f n := by
    rcases mna_mem (f 0) f n with h | h
    · exact ⟨0, hn, h.symm⟩
    · exact h
  obtain ⟨i, hi, e1⟩ := h1
  obtain ⟨j, hj, e2⟩ := h2
  have := h.1 i j hi hj
  omega

theorem mxa_bound (a : Int) (f : Nat → Int) (k : Nat) (lo hi : Int) (ha : lo ≤ a ∧ a ≤ hi) (h : ∀ j, j < k → lo ≤ f j ∧ f j ≤ hi) : lo ≤ mxa a f k ∧ mxa a f k ≤ hi := by
  rcases mxa_mem a f k with e | ⟨j, hj, e⟩
  · omega
  · have := h j hj; omega

theorem mna_bound (a : Int) (f : Nat → Int) (k : Nat) (lo hi : Int) (ha : lo ≤ a ∧ a ≤ hi) (h : ∀ j, j < k → lo ≤ f j ∧ f j ≤ hi) : lo ≤ mna a f k ∧ mna a f k ≤ hi := by
  rcases mna_mem a f k with e | ⟨j, hj, e⟩
  · omega
  · have := h j hj; omega

end Go.Proofs.Ythopnlnknicgbaa
