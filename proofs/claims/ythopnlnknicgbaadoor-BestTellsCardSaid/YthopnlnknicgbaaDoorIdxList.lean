/- where a list's element lies, as slices.Index tells it. -/
import Derived.Test.YthopnlnknicgbaaDoorIdx
import Derived.Test.YthopnlnknicgbaaDoorLruLaw
namespace Go.Proofs.YthopnlnknicgbaaDoor

theorem lg_idx (l : List Int) (k : Int) (hk : k ∈ l) : l.idxOf k < l.length ∧ lg l (l.idxOf k) = k ∧ ∀ j, j < l.idxOf k → lg l j ≠ k := by
  have h1 : l.idxOf k < l.length := List.idxOf_lt_length_of_mem hk
  refine ⟨h1, ?_, fun j hj e => ?_⟩
  · rw [lg_lt h1]
    exact List.getElem_idxOf h1
  · rw [lg_lt (by omega)] at e
    have := List.not_of_lt_findIdx (p := (· == k)) (xs := l) (i := j) hj
    simp [e] at this

theorem idx_mem (l : List Int) (k : Int) (hk : k ∈ l) : idx (lg l) k l.length = (l.idxOf k : Int) := by
  obtain ⟨h1, h2, h3⟩ := lg_idx l k hk
  have h := fst_hit (lg l) k l.length _ h1 h2 h3
  unfold idx
  rw [h, if_pos h1]

theorem idx_not (l : List Int) (k : Int) (hk : k ∉ l) : idx (lg l) k l.length = -1 := by
  have h := fst_miss (lg l) k l.length (fun j hj e => hk (by rw [← e, lg_lt hj]; exact List.getElem_mem hj))
  unfold idx
  rw [h, if_neg (Nat.lt_irrefl _)]

end Go.Proofs.YthopnlnknicgbaaDoor
