/- Do two functions agree below a number? -/
import Derived.Test.YtbaiaolgjlhioaaDoorRows
import Derived.Test.YtbaiaolgjlhioaaDoorInfo
namespace Go.Proofs.YtbaiaolgjlhioaaDoor
open Go.RowKit

/-- do f and g agree below n? -/
def eqUpTo (f g : Nat → Int) : Nat → Bool
  | 0 => true
  | n + 1 => eqUpTo f g n && (f n == g n)

theorem eqUpTo_iff (f g : Nat → Int) (n : Nat) : eqUpTo f g n = true ↔ ∀ j, j < n → f j = g j := by
  induction n with
  | zero => simp [eqUpTo]
  | succ n ih =>
    simp only [eqUpTo, Bool.and_eq_true, ih, beq_iff_eq]
    constructor
    · rintro ⟨h1, h2⟩ j hj
      by_cases hjn : j = n
      · subst hjn; exact h2
      · exact h1 j (by omega)
    · intro h
      exact ⟨fun j hj => h j (by omega), h n (by omega)⟩

theorem eqUpTo_mono (f g : Nat → Int) (n k : Nat) (hk : k ≤ n) (h : eqUpTo f g k = false) : eqUpTo f g n = false := by
  cases hn : eqUpTo f g n with
  | false => rfl
  | true =>
    have := (eqUpTo_iff f g k).2 (fun j hj => (eqUpTo_iff f g n).1 hn j (by omega))
    rw [this] at h; cases h

end Go.Proofs.YtbaiaolgjlhioaaDoor
