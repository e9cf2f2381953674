/- replay: what has been taken, in plain Lean: the ring of the window, and the list of all that was taken. -/
import Derived.Test.YtlinembnfcdmcaaDoorRows
namespace Go.Proofs.YtlinembnfcdmcaaDoor

/-- a ring of n numbers, f, and its greatest one; q 0 .. q (c-1) are all that were taken -/
structure Ring1 (n : Nat) (f : Nat → Int) (top : Int) (c : Nat) (q : Nat → Int) : Prop where
  low : -1 ≤ top
  all : ∀ t, t < c → 0 ≤ q t ∧ q t ≤ top
  some : ∀ j, j < n → f j = -1 ∨ ∃ t, t < c ∧ f j = q t
  at_ : ∀ j, j < n → 0 ≤ f j → (f j).toNat % n = j
  last : ∀ t, t < c → q t ≤ f ((q t).toNat % n)

theorem Ring1.start (n : Nat) (q : Nat → Int) : Ring1 n (fun _ => -1) (-1) 0 q :=
  ⟨by omega, fun t ht => by omega, fun j _ => .inl rfl, fun j _ h => by omega, fun t ht => by omega⟩

theorem mod_step {a b n : Nat} (h : a % n = b % n) (hlt : a < b) : a + n ≤ b := by
  rcases Nat.eq_zero_or_pos n with rfl | hn
  · simp at h; omega
  · have h1 := Nat.div_add_mod a n
    have h2 := Nat.div_add_mod b n
    have h3 : a / n < b / n := by
      rcases Nat.lt_or_ge (a / n) (b / n) with h4 | h4
      · exact h4
      · have := Nat.mul_le_mul_left n h4
        omega
    have h4 := Nat.mul_le_mul_left n h3
    rw [Nat.succ_eq_add_one, Nat.mul_add, Nat.mul_one] at h4
    omega

/-- a number that is not too late lies in the ring just where it was taken -/
theorem Ring1.mem {n : Nat} {f : Nat → Int} {top : Int} {c : Nat} {q : Nat → Int} (h : Ring1 n f top c q) (hn : 0 < n) (k : Nat) (hk : ¬ ((k : Int) < top ∧ (n : Int) ≤ top - k)) :
    f (k % n) = k ↔ ∃ t, t < c ∧ q t = k := by
  constructor
  · intro e
    rcases h.some (k % n) (Nat.mod_lt _ hn) with h1 | ⟨t, ht, h1⟩
    · omega
    · exact ⟨t, ht, by omega⟩
  · rintro ⟨t, ht, e⟩
    have h1 := h.last t ht
    rw [e] at h1
    simp only [Int.toNat_natCast] at h1
    have h2 := h.at_ (k % n) (Nat.mod_lt _ hn) (by omega)
    rcases h.some (k % n) (Nat.mod_lt _ hn) with h3 | ⟨t', ht', h3⟩
    · omega
    · have h4 := (h.all t' ht').2
      by_cases h5 : f (k % n) = k
      · exact h5
      · have h6 := mod_step (a := k) (b := (f (k % n)).toNat) (n := n) h2.symm (by omega)
        omega

/-- one more is taken -/
theorem Ring1.take {n : Nat} {f : Nat → Int} {top : Int} {c : Nat} {q : Nat → Int} (h : Ring1 n f top c q) (hn : 0 < n) (k : Nat) (hk : ¬ ((k : Int) < top ∧ (n : Int) ≤ top - k)) :
    Ring1 n (fun j => if j = k % n then (k : Int) else f j) (max top k) (c + 1) (fun t => if t = c then (k : Int) else q t) := by
  have hlow := h.low
  refine ⟨by omega, fun t ht => ?_, fun j hj => ?_, fun j hj => ?_, fun t ht => ?_⟩
  · by_cases htc : t = c
    · simp only [if_pos htc]; omega
    · simp only [if_neg htc]
      have := h.all t (by omega)
      omega
  · by_cases hjk : j = k % n
    · right
      exact ⟨c, by omega, by simp [hjk]⟩
    · simp only [if_neg hjk]
      rcases h.some j hj with h1 | ⟨t, ht, h1⟩
      · exact .inl h1
      · exact .inr ⟨t, by omega, by rw [if_neg (by omega), h1]⟩
  · by_cases hjk : j = k % n
    · simp only [if_pos hjk]
      intro _
      simp [hjk]
    · simp only [if_neg hjk]
      exact h.at_ j hj
  · by_cases htc : t = c
    · simp only [if_pos htc, Int.toNat_natCast]
      simp
    · simp only [if_neg htc]
      have h1 := h.last t (by omega)
      have h2 := h.all t (by omega)
      by_cases h3 : (q t).toNat % n = k % n
      · rw [if_pos h3]
        by_cases h4 : q t ≤ k
        · exact h4
        · have := mod_step h3.symm (by omega)
          omega
      · rw [if_neg h3]
        exact h1

end Go.Proofs.YtlinembnfcdmcaaDoor
