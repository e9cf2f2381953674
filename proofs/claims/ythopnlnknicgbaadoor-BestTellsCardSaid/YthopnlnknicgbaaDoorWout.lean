/- a list without one. -/
import Derived.Test.YthopnlnknicgbaaDoorLruLaw
namespace Go.Proofs.YthopnlnknicgbaaDoor

/-- without y -/
def wout (y : Int) (l : List Int) : List Int := l.filter (fun z => decide (z ≠ y))

theorem wout_succ (y : Int) (l : List Int) (j : Nat) (hj : j < l.length) : wout y (l.take (j + 1)) = if lg l j = y then wout y (l.take j) else wout y (l.take j) ++ [lg l j] := by
  unfold wout
  rw [List.take_succ_eq_append_getElem hj, List.filter_append, lg_lt hj]
  by_cases h : l[j] = y
  · rw [if_pos h]; simp [h]
  · rw [if_neg h]; simp [h]

theorem wout_len (y : Int) (l : List Int) : (wout y l).length ≤ l.length := List.length_filter_le _ _

theorem wout_lt (y : Int) (l : List Int) (hy : y ∈ l) : (wout y l).length + 1 ≤ l.length := by
  induction l with
  | nil => cases hy
  | cons x l ih =>
    unfold wout
    rw [List.filter_cons]
    by_cases hx : x = y
    · rw [if_neg (by simpa using hx)]
      have := List.length_filter_le (fun z => decide (z ≠ y)) l
      simp only [List.length_cons]; omega
    · rw [if_pos (by simpa using hx)]
      have := ih ((List.mem_cons.1 hy).resolve_left (fun e => hx e.symm))
      unfold wout at this
      simp only [List.length_cons]; omega

end Go.Proofs.YthopnlnknicgbaaDoor
