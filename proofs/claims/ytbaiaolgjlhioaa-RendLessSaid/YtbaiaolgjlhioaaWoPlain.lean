/- One node less: the plain law (for the ring and for rend). -/
import Derived.Test.YtbaiaolgjlhioaaNodes
import Derived.Test.YtbaiaolgjlhioaaWithoutN
import Derived.Test.YtbaiaolgjlhioaaRendMore
namespace Go.Proofs.Ytbaiaolgjlhioaa
open Go.RowKit Go.Sort

theorem wo_good' {p : Nat → Int × Int} {n : Nat} (hp : NGood p n) (k : Nat) (hk : k < n) (h1 : n ≠ 1) : NGood (wo p k) (n - 1) := by
  have h0 := hp.n0
  have h40 := hp.n40
  refine ⟨by omega, by omega, fun i hi => ?_, fun i j hi hj e => ?_⟩
  · unfold wo
    by_cases h : i < k
    · rw [if_pos h]; exact hp.rng i (by omega)
    · rw [if_neg h]; exact hp.rng (i + 1) (by omega)
  · unfold wo at e
    by_cases h2 : i < k
    · by_cases h3 : j < k
      · rw [if_pos h2, if_pos h3] at e
        exact hp.ne i j (by omega) (by omega) e
      · rw [if_pos h2, if_neg h3] at e
        have := hp.ne i (j + 1) (by omega) (by omega) e
        omega
    · by_cases h3 : j < k
      · rw [if_neg h2, if_pos h3] at e
        have := hp.ne (i + 1) j (by omega) (by omega) e
        omega
      · rw [if_neg h2, if_neg h3] at e
        have := hp.ne (i + 1) (j + 1) (by omega) (by omega) e
        omega

theorem scs_wo (p : Nat → Int × Int) (m : Nat) (kf : Nat → Int) (k : Nat) (x : Int) (hx : (p k).1 = x) : ∀ n, k < n → (∀ j, j < n → j ≠ k → (p j).1 ≠ x) → (scs p m kf n).filter (fun y => y.2 != x) = scs (wo p k) m kf (n - 1) := by
  intro n
  induction n with
  | zero => intro h; omega
  | succ n ih =>
    intro hk hne
    rw [scs_succ, List.filter_append]
    by_cases h : n = k
    · subst h
      rw [filter_all (fun y hy => by
        obtain ⟨i, hi, rfl⟩ := (scs_mem p m kf n y).1 hy
        simpa using hne i (by omega) (by omega))]
      simp only [List.filter_cons, List.filter_nil]
      rw [if_neg (by simp [hx]), List.append_nil, Nat.add_sub_cancel]
      exact scs_congr p (wo p n) m kf n (fun i hi => by unfold wo; rw [if_pos hi])
    · have hkn : k < n := by omega
      rw [ih hkn (fun j hj => hne j (by omega))]
      simp only [List.filter_cons, List.filter_nil]
      rw [if_pos (by simpa using hne n (by omega) h), Nat.add_sub_cancel]
      obtain ⟨t, rfl⟩ : ∃ t, n = t + 1 := ⟨n - 1, by omega⟩
      rw [Nat.add_sub_cancel, scs_succ]
      have e : wo p k t = p (t + 1) := by unfold wo; rw [if_neg (by omega)]
      rw [e]

end Go.Proofs.Ytbaiaolgjlhioaa
