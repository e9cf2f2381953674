/- rule.read, told plainly: the depth of its stack, and what the stack's nodes tell. -/
import Derived.Test.YtgpfkaiinbncnaaDoorHolds
namespace Go.Proofs.YtgpfkaiinbncnaaDoor
open Go.RowKit

/-- how many nodes lie on the stack behind k parts -/
def dps (M : Nat → Mt) : Nat → Nat
  | 0 => 0
  | k + 1 => dps M k - tkN (M k).op + 1

/-- does each of the first k parts find what it takes? -/
def fed (M : Nat → Mt) : Nat → Bool
  | 0 => true
  | k + 1 => fed M k && decide (tkN (M k).op ≤ dps M k)

/-- what the stack's nodes tell, behind k parts -/
def stB (M : Nat → Mt) (q : Qt) : Nat → Nat → Bool
  | 0 => fun _ => true
  | k + 1 => fun j => if j < dps M k - tkN (M k).op then stB M q k j else nodeH (M k) q (fun i => stB M q k (dps M k - tkN (M k).op + i))

/-- the fault of the first part that has one, of the first k -/
def fstN (M : Nat → Mt) : Nat → Int
  | 0 => 0
  | k + 1 => if fstN M k = 0 then n1Fault (M k) else fstN M k

/-- what is wrong with a rule of n parts -/
def rdFault (M : Nat → Mt) (n : Nat) : Int :=
  if 200 < n then 7 else if fstN M n ≠ 0 then fstN M n else if fed M n = true ∧ dps M n = 1 then 0 else 1

theorem tkN_le (op : Int) : tkN op ≤ 2 := by
  unfold tkN tk
  split
  · decide
  · split <;> decide

theorem dps_le (M : Nat → Mt) (k : Nat) : dps M k ≤ k := by
  induction k with
  | zero => exact Nat.le_refl _
  | succ k ih => simp only [dps]; omega

theorem fed_false {M : Nat → Mt} {i n : Nat} (hi : i < n) (h : ¬ tkN (M i).op ≤ dps M i) : fed M n = false := by
  induction n with
  | zero => omega
  | succ n ih =>
    simp only [fed]
    by_cases e : i = n
    · subst e
      rw [decide_eq_false h, Bool.and_false]
    · rw [ih (by omega), Bool.false_and]

theorem fstN_keep {M : Nat → Mt} {i n : Nat} (hi : i ≤ n) (h : fstN M i ≠ 0) : fstN M n = fstN M i := by
  induction n with
  | zero => rw [show i = 0 by omega]
  | succ n ih =>
    by_cases e : i = n + 1
    · rw [e]
    · have := ih (by omega)
      simp only [fstN]
      rw [if_neg (by rw [this]; exact h), this]

end Go.Proofs.YtgpfkaiinbncnaaDoor
