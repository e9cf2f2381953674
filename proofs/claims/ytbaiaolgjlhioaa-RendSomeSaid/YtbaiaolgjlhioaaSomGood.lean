/- Some of good nodes are good; a store into an element's second cell. -/
import Derived.Test.YtbaiaolgjlhioaaSom
namespace Go.Proofs.Ytbaiaolgjlhioaa
open Go.RowKit Go.Sort

theorem OwnP.apartF {w : World} {B : Nat} {E T : TypeId} {v : Value} {n m cap g : Nat} {p : Nat → Int × Int} {f : Nat → Value} (h : OwnP w B E v n p) (hr : RowF w g T m cap f) (hT : E ≠ T) : g ∉ v.ownBlock.toList := by
  obtain ⟨cur, h1, _⟩ := hr
  exact h.apart h1 hT

theorem RowP.stored2 {w : World} {g : Nat} {E : TypeId} {n cap : Nat} {p : Nat → Int × Int} (h : RowP w g E n cap p) (k : Nat) (y : Int) : RowP (w.setCell ⟨g, k * 2 + 1, none⟩ (.int .i64 y)) g E n cap (fun j => if j = k then ((p k).1, y) else p j) := by
  obtain ⟨cur, h1, h2, h3, h4, h5⟩ := h
  refine ⟨cur.setIfInBounds (k * 2 + 1) (.int .i64 y), ?_, by simpa using h2, h3, h4, fun j hj => ?_⟩
  · simp only [World.setCell]
    rw [Array.getElem?_modify, if_pos rfl, h1]
    rfl
  · have hjc : j < cur.size := by omega
    have := h5 j hj
    by_cases hjk : j = k * 2 + 1
    · subst hjk
      unfold fl2
      rw [if_neg (by omega), show (k * 2 + 1) / 2 = k by omega]
      dsimp only
      rw [if_pos rfl]
      simp [hjc]
    · rw [Array.getElem?_setIfInBounds_ne (by omega), this]
      unfold fl2
      dsimp only
      by_cases hk : j / 2 = k
      · rw [if_pos hk, if_pos (by omega), if_pos (by omega), hk]
      · rw [if_neg hk]

theorem som_pair (p : Nat → Int × Int) (g : Nat → Bool) (n : Nat) (hp : NGood p n) (k : Nat) (hk : k ≤ n) : (som p g k).Pairwise (fun x y => x.1 ≠ y.1) := by
  induction k with
  | zero => exact List.Pairwise.nil
  | succ k ih =>
    simp only [som]
    rw [List.pairwise_append]
    refine ⟨ih (by omega), ?_, fun x hx y hy => ?_⟩
    · split
      · exact List.pairwise_singleton _ _
      · exact List.Pairwise.nil
    · split at hy
      · rw [List.mem_singleton] at hy
        subst hy
        obtain ⟨j, hj, _, rfl⟩ := (som_mem p g k x).1 hx
        intro e
        have := hp.ne j k (by omega) (by omega) e
        omega
      · cases hy

/-- a part of good nodes is good, if there is one at all -/
theorem good_of_list {p : Nat → Int × Int} {n : Nat} (hp : NGood p n) (L : List (Int × Int)) (h0 : 0 < L.length) (hl : L.length ≤ 40) (hs : ∀ x ∈ L, ∃ j, j < n ∧ x = p j) (hpw : L.Pairwise (fun x y => x.1 ≠ y.1)) : NGood (lp L) L.length := by
  refine ⟨h0, hl, fun k hk => ?_, fun j k hj hk e => ?_⟩
  · obtain ⟨i, hi, e⟩ := hs _ (lp_mem hk)
    rw [e]
    exact hp.rng i hi
  · rw [List.pairwise_iff_getElem] at hpw
    rcases Nat.lt_trichotomy j k with h | h | h
    · exact absurd (by rw [← lp_get hj, ← lp_get hk]; exact e) (hpw j k hj hk h)
    · exact h
    · exact absurd (by rw [← lp_get hj, ← lp_get hk]; exact e.symm) (hpw k j hk hj h)

theorem som_good {p : Nat → Int × Int} {n : Nat} (hp : NGood p n) (g : Nat → Bool) (h0 : 0 < (som p g n).length) : NGood (lp (som p g n)) (som p g n).length :=
  good_of_list hp _ h0 (Nat.le_trans (som_len p g n) hp.n40) (fun x hx => by
    obtain ⟨j, hj, _, e⟩ := (som_mem p g n x).1 hx
    exact ⟨j, hj, e⟩) (som_pair p g n hp n (Nat.le_refl _))

end Go.Proofs.Ytbaiaolgjlhioaa
