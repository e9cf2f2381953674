/- lru: the lists of keys, in plain Lean. -/
import Derived.Test.YthopnlnknicgbaaDoorRows
namespace Go.Proofs.YthopnlnknicgbaaDoor

/-- a list's j-th -/
def lg (l : List Int) (j : Nat) : Int := l.getD j 0

theorem lg_lt {l : List Int} {j : Nat} (hj : j < l.length) : lg l j = l[j] := by
  unfold lg
  rw [List.getD_eq_getElem?_getD, List.getElem?_eq_getElem hj]
  rfl

theorem lg_snoc (L : List Int) (x : Int) (j : Nat) (hj : j < L.length + 1) : (if j < L.length then lg L j else x) = lg (L ++ [x]) j := by
  unfold lg
  rw [List.getD_eq_getElem?_getD, List.getD_eq_getElem?_getD]
  by_cases h : j < L.length
  · rw [if_pos h, List.getElem?_append_left h]
  · have e : j = L.length := by omega
    subst e
    rw [if_neg h, List.getElem?_append_right (Nat.le_refl _)]
    simp

/-- the keys behind one that is asked for -/
def rcn (k : Int) (l : List Int) : List Int := k :: l.erase k

theorem erase_take (k : Int) : ∀ (l : List Int) (n : Nat), ((l.take (n + 1)).erase k).take n = (l.erase k).take n
  | [], n => by simp
  | a :: t, n => by
    rw [List.take_succ_cons, List.erase_cons, List.erase_cons]
    by_cases h : (a == k) = true
    · rw [if_pos h, if_pos h, List.take_take, Nat.min_self]
    · rw [if_neg h, if_neg h]
      cases n with
      | zero => rfl
      | succ m => rw [List.take_succ_cons, List.take_succ_cons, erase_take k t m]

theorem rcn_take (k : Int) (l : List Int) (n : Nat) (hn : 1 ≤ n) : (rcn k (l.take n)).take n = (rcn k l).take n := by
  obtain ⟨m, rfl⟩ : ∃ m, n = m + 1 := ⟨n - 1, by omega⟩
  unfold rcn
  rw [List.take_succ_cons, List.take_succ_cons, erase_take]

theorem rcn_len (k : Int) (l : List Int) : (rcn k l).length = if k ∈ l then l.length else l.length + 1 := by
  unfold rcn
  rw [List.length_cons, List.length_erase]
  by_cases h : k ∈ l
  · have : 0 < l.length := List.length_pos_of_mem h
    rw [if_pos h, if_pos h]; omega
  · rw [if_neg h, if_neg h]

/-- the keys asked for, the last one first -/
def rcs (kf : Nat → Int) : Nat → List Int
  | 0 => []
  | j + 1 => rcn (kf j) (rcs kf j)

/-- how many are not there, with room for n -/
def msc (kf : Nat → Int) (n : Nat) : Nat → Nat
  | 0 => 0
  | j + 1 => msc kf n j + if kf j ∈ (rcs kf j).take n then 0 else 1

theorem take_mem_mono {k : Int} {l : List Int} {m n : Nat} (hmn : m ≤ n) (h : k ∈ l.take m) : k ∈ l.take n := by
  have : l.take m = (l.take n).take m := by rw [List.take_take, Nat.min_eq_left hmn]
  rw [this] at h
  exact List.mem_of_mem_take h

theorem msc_mono (kf : Nat → Int) (m n : Nat) (hmn : m ≤ n) (j : Nat) : msc kf n j ≤ msc kf m j := by
  induction j with
  | zero => exact Nat.le_refl _
  | succ j ih =>
    unfold msc
    by_cases h : kf j ∈ (rcs kf j).take m
    · rw [if_pos h, if_pos (take_mem_mono hmn h)]; omega
    · rw [if_neg h]; split <;> omega

theorem msc_le (kf : Nat → Int) (n j : Nat) : msc kf n j ≤ j := by
  induction j with
  | zero => exact Nat.le_refl _
  | succ j ih => unfold msc; split <;> omega

theorem rcs_take (kf : Nat → Int) (n j : Nat) (hn : 1 ≤ n) : (rcn (kf j) ((rcs kf j).take n)).take n = (rcs kf (j + 1)).take n := rcn_take _ _ _ hn

end Go.Proofs.YthopnlnknicgbaaDoor
