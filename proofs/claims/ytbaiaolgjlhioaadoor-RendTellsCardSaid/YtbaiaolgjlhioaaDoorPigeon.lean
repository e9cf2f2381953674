/- n places, n that differ: each is met. -/
import Derived.Test.YtbaiaolgjlhioaaDoorGen
namespace Go.Proofs.YtbaiaolgjlhioaaDoor

theorem pigeon : ∀ (n : Nat) (f : Nat → Nat), (∀ i, i < n → f i < n) → (∀ i j, i < n → j < n → f i = f j → i = j) → ∀ y, y < n → ∃ i, i < n ∧ f i = y
  | 0, _, _, _, y, hy => by omega
  | n + 1, f, hr, hi, y, hy => by
    by_cases hn : f n = y
    · exact ⟨n, by omega, hn⟩
    have ha := hr n (by omega)
    by_cases hfn : f n = n
    · obtain ⟨i, h1, h2⟩ := pigeon n f (fun i h => by
        have := hr i (by omega)
        have h3 : f i ≠ n := fun e => by have := hi i n (by omega) (by omega) (by rw [e, hfn]); omega
        omega) (fun i j a b => hi i j (by omega) (by omega)) y (by omega)
      exact ⟨i, by omega, h2⟩
    · have hg : ∀ i, i < n → (if f i = n then f n else f i) < n := fun i h => by
        have := hr i (by omega)
        split <;> omega
      have hgi : ∀ i j, i < n → j < n → (if f i = n then f n else f i) = (if f j = n then f n else f j) → i = j := fun i j a b e => by
        by_cases h1 : f i = n
        · by_cases h2 : f j = n
          · exact hi i j (by omega) (by omega) (by rw [h1, h2])
          · rw [if_pos h1, if_neg h2] at e
            have := hi n j (by omega) (by omega) e
            omega
        · by_cases h2 : f j = n
          · rw [if_neg h1, if_pos h2] at e
            have := hi i n (by omega) (by omega) e
            omega
          · rw [if_neg h1, if_neg h2] at e
            exact hi i j (by omega) (by omega) e
      by_cases hy2 : y = n
      · obtain ⟨i, h1, h2⟩ := pigeon n _ hg hgi (f n) (by omega)
        by_cases h3 : f i = n
        · exact ⟨i, by omega, by omega⟩
        · rw [if_neg h3] at h2
          have := hi i n (by omega) (by omega) h2
          omega
      · obtain ⟨i, h1, h2⟩ := pigeon n _ hg hgi y (by omega)
        by_cases h3 : f i = n
        · rw [if_pos h3] at h2
          exact absurd h2 hn
        · rw [if_neg h3] at h2
          exact ⟨i, by omega, h2⟩

end Go.Proofs.YtbaiaolgjlhioaaDoor
