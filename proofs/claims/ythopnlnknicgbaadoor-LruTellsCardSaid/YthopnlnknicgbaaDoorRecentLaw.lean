/- Recent of the reference is what the cache holds: in plain Lean. -/
import Derived.Test.YthopnlnknicgbaaDoorLruLaw
namespace Go.Proofs.YthopnlnknicgbaaDoor

/-- one key more is looked at -/
def rstep (n : Nat) (acc : List Int) (x : Int) : List Int := if x ∉ acc ∧ acc.length < n then acc ++ [x] else acc

/-- the first t keys, the last one first -/
def rkeys (kf : Nat → Int) (j t : Nat) : List Int := (List.range t).map (fun s => kf (j - 1 - s))

/-- what is there behind t keys -/
def rec (kf : Nat → Int) (n j t : Nat) : List Int := (rkeys kf j t).foldl (rstep n) []

theorem rec_succ (kf : Nat → Int) (n j t : Nat) : rec kf n j (t + 1) = rstep n (rec kf n j t) (kf (j - 1 - t)) := by
  unfold rec rkeys
  rw [List.range_succ, List.map_append, List.foldl_append]
  rfl

/-- the unlike ones -/
def ddl : List Int → List Int
  | [] => []
  | x :: l => x :: (ddl l).filter (fun y => decide (y ≠ x))

def ustep (acc : List Int) (x : Int) : List Int := if x ∈ acc then acc else acc ++ [x]

theorem ua_eq (l : List Int) : ∀ acc : List Int, l.foldl ustep acc = acc ++ (ddl l).filter (fun y => decide (y ∉ acc)) := by
  induction l with
  | nil => intro acc; simp [ddl]
  | cons x l ih =>
    intro acc
    rw [List.foldl_cons, ih]
    have ed : ddl (x :: l) = x :: (ddl l).filter (fun y => decide (y ≠ x)) := rfl
    rw [ed]
    unfold ustep
    by_cases h : x ∈ acc
    · rw [if_pos h, List.filter_cons, if_neg (by simpa using h), List.filter_filter]
      congr 1
      apply List.filter_congr
      intro y _
      by_cases hy : y = x
      · subst hy; simp [h]
      · simp [hy]
    · rw [if_neg h, List.filter_cons, if_pos (by simpa using h), List.append_assoc, List.filter_filter, List.cons_append, List.nil_append]
      congr 2
      apply List.filter_congr
      intro y _
      by_cases hy : y = x
      · subst hy; simp
      · simp [hy]

theorem ua_take (l : List Int) (acc : List Int) (n : Nat) (h : acc.length = n) : (l.foldl ustep acc).take n = acc := by
  rw [ua_eq, List.take_append_of_le_length (by omega), List.take_of_length_le (by omega)]

theorem la_eq (n : Nat) (l : List Int) : ∀ acc : List Int, acc.length ≤ n → l.foldl (rstep n) acc = (l.foldl ustep acc).take n := by
  induction l with
  | nil => intro acc h; exact (List.take_of_length_le h).symm
  | cons x l ih =>
    intro acc h
    rw [List.foldl_cons, List.foldl_cons]
    by_cases hx : x ∈ acc
    · have e1 : rstep n acc x = acc := by unfold rstep; rw [if_neg (fun h => h.1 hx)]
      have e2 : ustep acc x = acc := by unfold ustep; rw [if_pos hx]
      rw [e1, e2]
      exact ih acc h
    · have e2 : ustep acc x = acc ++ [x] := by unfold ustep; rw [if_neg hx]
      by_cases hl : acc.length < n
      · have e1 : rstep n acc x = acc ++ [x] := by unfold rstep; rw [if_pos ⟨hx, hl⟩]
        rw [e1, e2]
        exact ih _ (by simp; omega)
      · have e1 : rstep n acc x = acc := by unfold rstep; rw [if_neg (fun h => hl h.2)]
        rw [e1, e2, ih acc h, ua_take l acc n (by omega), ua_eq, List.append_assoc, List.take_append_of_le_length (by omega), List.take_of_length_le (by omega)]

theorem rkeys_succ (kf : Nat → Int) (j : Nat) : rkeys kf (j + 1) (j + 1) = kf j :: rkeys kf j j := by
  unfold rkeys
  rw [List.range_succ_eq_map, List.map_cons, List.map_map]
  congr 1
  apply List.map_congr_left
  intro s hs
  simp only [Function.comp]
  congr 1
  omega

theorem rcs_nodup (kf : Nat → Int) (j : Nat) : (rcs kf j).Nodup := by
  induction j with
  | zero => exact List.nodup_nil
  | succ j ih =>
    show (kf j :: (rcs kf j).erase (kf j)).Nodup
    rw [List.nodup_cons]
    exact ⟨fun h => ih.not_mem_erase h, ih.erase _⟩

theorem ddl_rcs (kf : Nat → Int) (j : Nat) : ddl (rkeys kf j j) = rcs kf j := by
  induction j with
  | zero => rfl
  | succ j ih =>
    rw [rkeys_succ]
    show kf j :: (ddl (rkeys kf j j)).filter _ = kf j :: (rcs kf j).erase (kf j)
    rw [ih, (rcs_nodup kf j).erase_eq_filter]
    congr 1
    apply List.filter_congr
    intro y _
    by_cases hy : y = kf j
    · simp [hy]
    · simp [hy]

theorem rec_told (kf : Nat → Int) (n j : Nat) : rec kf n j j = (rcs kf j).take n := by
  unfold rec
  rw [la_eq n _ [] (by simp), ua_eq, ddl_rcs]
  congr 1
  rw [List.nil_append]
  exact List.filter_eq_self.2 (fun y _ => by simp)

theorem rec_len (kf : Nat → Int) (n j t : Nat) : (rec kf n j t).length ≤ n ∧ (rec kf n j t).length ≤ t := by
  induction t with
  | zero => simp [rec, rkeys]
  | succ t ih =>
    rw [rec_succ]
    unfold rstep
    split
    · rw [List.length_append]; simp; omega
    · omega

end Go.Proofs.YthopnlnknicgbaaDoor
