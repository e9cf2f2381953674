/- Some of the nodes: their points, and who wins. -/
import Derived.Test.YtbaiaolgjlhioaaDoorRingPick
import Derived.Test.YtbaiaolgjlhioaaDoorSom
namespace Go.Proofs.YtbaiaolgjlhioaaDoor
open Go.RowKit Go.Sort

/-- q's nodes are p's -/
def NSub (q : Nat → Int × Int) (m : Nat) (p : Nat → Int × Int) (n : Nat) : Prop := ∀ i, i < m → ∃ j, j < n ∧ q i = p j

theorem NSub.ptsub {q p : Nat → Int × Int} {m n : Nat} (h : NSub q m p n) : ∀ x ∈ pts q m, x ∈ pts p n := by
  intro x hx
  obtain ⟨i, k, hi, hk, rfl⟩ := (pts_mem x).1 hx
  obtain ⟨j, hj, e⟩ := h i hi
  rw [e] at hk ⊢
  exact (pts_mem _).2 ⟨j, k, hj, hk, rfl⟩

theorem NSub.own {q p : Nat → Int × Int} {m n : Nat} (h : NSub q m p n) (hp : NGood p n) (i : Nat) (hi : i < m) : ∀ x ∈ pts p n, x.2 = (q i).1 → x ∈ pts q m := by
  intro x hx hr
  obtain ⟨j, k, hj, hk, rfl⟩ := (pts_mem x).1 hx
  obtain ⟨j', hj', e⟩ := h i hi
  simp only [] at hr
  rw [e] at hr
  obtain rfl := hp.ne j j' hj hj' hr
  refine (pts_mem _).2 ⟨i, k, hi, by rw [e]; exact hk, by rw [e]⟩

theorem som_pair (p : Nat → Int × Int) (g : Nat → Bool) (n : Nat) (hp : NGood p n) (k : Nat) (hk : k ≤ n) : (som p g k).Pairwise (fun x y => x.1 ≠ y.1) := by
  induction k with
  | zero => exact List.Pairwise.nil
  | succ k ih =>
    simp only [som]
    rw [List.pairwise_append]
    refine ⟨ih (by omega), ?_, fun x hx y hy => ?_⟩
    · split
      · exact List.pairwise_singleton _ _
      · exact List.Pairwise.nil
    · split at hy
      · rw [List.mem_singleton] at hy
        subst hy
        obtain ⟨j, hj, _, rfl⟩ := (som_mem p g k x).1 hx
        intro e
        have := hp.ne j k (by omega) (by omega) e
        omega
      · cases hy

/-- a part of good nodes is good, if there is one at all -/
theorem good_of_list {p : Nat → Int × Int} {n : Nat} (hp : NGood p n) (L : List (Int × Int)) (h0 : 0 < L.length) (hl : L.length ≤ 40) (hs : ∀ x ∈ L, ∃ j, j < n ∧ x = p j) (hpw : L.Pairwise (fun x y => x.1 ≠ y.1)) : NGood (lp L) L.length := by
  refine ⟨h0, hl, fun k hk => ?_, fun j k hj hk e => ?_⟩
  · obtain ⟨i, hi, e⟩ := hs _ (lp_mem hk)
    rw [e]
    exact hp.rng i hi
  · rw [List.pairwise_iff_getElem] at hpw
    rcases Nat.lt_trichotomy j k with h | h | h
    · exact absurd (by rw [← lp_get hj, ← lp_get hk]; exact e) (hpw j k hj hk h)
    · exact h
    · exact absurd (by rw [← lp_get hj, ← lp_get hk]; exact e.symm) (hpw k j hk hj h)

theorem som_good {p : Nat → Int × Int} {n : Nat} (hp : NGood p n) (g : Nat → Bool) (h0 : 0 < (som p g n).length) : NGood (lp (som p g n)) (som p g n).length :=
  good_of_list hp _ h0 (Nat.le_trans (som_len p g n) hp.n40) (fun x hx => by
    obtain ⟨j, hj, _, e⟩ := (som_mem p g n x).1 hx
    exact ⟨j, hj, e⟩) (som_pair p g n hp n (Nat.le_refl _))

theorem som_sub (p : Nat → Int × Int) (g : Nat → Bool) (n : Nat) : NSub (lp (som p g n)) (som p g n).length p n := fun i hi => by
  obtain ⟨j, hj, _, e⟩ := (som_mem p g n _).1 (lp_mem hi)
  exact ⟨j, hj, e⟩

theorem nfault_none (p : Nat → Int × Int) : nfault p 0 = 9 := by
  unfold nfault
  rw [if_neg (by omega), if_neg (by simp [nfk]), if_pos rfl]

end Go.Proofs.YtbaiaolgjlhioaaDoor
