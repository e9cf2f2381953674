/- without: one node less. -/
import Derived.Test.YtbaiaolgjlhioaaSom
namespace Go.Proofs.Ytbaiaolgjlhioaa
open Go.RowKit Go.Sort

/-- all but the one at k -/
def wo (p : Nat → Int × Int) (k j : Nat) : Int × Int := if j < k then p j else p (j + 1)

theorem RdP.upto {w : World} {a : Option Addr} {n c : Nat} {p : Nat → Int × Int} (h : RdP w (.slice a n c) n p) (k : Nat) (hk : k ≤ n) : RdP w (.slice a k c) k p := by
  rcases h with ⟨e, h0⟩ | ⟨ad, cap, e, h3, h4, h5⟩
  · simp only [Value.slice.injEq] at e
    obtain ⟨rfl, _, rfl⟩ := e
    rw [show k = 0 by omega]
    exact .inl ⟨rfl, rfl⟩
  · simp only [Value.slice.injEq, true_and] at e
    obtain ⟨rfl, rfl⟩ := e
    exact .inr ⟨ad, c, rfl, by omega, h4, fun j hj => h5 j (by omega)⟩

theorem RdP.from {w : World} {b o n c : Nat} {p : Nat → Int × Int} (h : RdP w (.slice (some ⟨b, o, none⟩) n c) n p) (k : Nat) (hk : k ≤ n) : RdP w (.slice (some ⟨b, o + k * 2, none⟩) (n - k) (c - k)) (n - k) (fun j => p (k + j)) := by
  have h2 := h.part k n hk (Nat.le_refl _)
  have e : (⟨b, o, none⟩ : Addr).add (k * 2) = ⟨b, o + k * 2, none⟩ := by unfold Addr.add; split <;> simp_all
  simpa [e] using h2

theorem RdP.none' {w : World} {b o n c : Nat} {p : Nat → Int × Int} (h : RdP w (.slice (some ⟨b, o, none⟩) n c) n p) (q : Nat → Int × Int) : RdP w (.slice (some ⟨b, o, none⟩) 0 0) 0 q :=
  .inr ⟨_, 0, rfl, Nat.le_refl _, by decide, fun j hj => by omega⟩

set_option maxHeartbeats 4000000 in
set_option maxRecDepth 100000 in
theorem without_any (w : World) (a : Option Addr) (n c : Nat) (p : Nat → Int × Int) (hv : RdP w (.slice a n c) n p) (hn : n * 16 ≤ 140737488351232) (k : Nat) (hk : k < n) :
    Calls Try.prog 9 #[.slice a n c, .int .i64 k] w fun e w' => ∃ v, e = .returned v ∧ OwnP w' w.heap.size 29 v (n - 1) (wo p k) ∧ Fr [] w w' := by
  obtain ⟨b, o, cap', he, hnc, hcm, hbw, hc⟩ := hv.shape (by omega)
  simp only [Value.slice.injEq, true_and] at he
  obtain ⟨rfl, rfl⟩ := he
  clear hc
  have HV := Lib.hid hv; clear hv
  have HE0 := Lib.hid (ownp_empty w 29 p)
  have hf0 := (Fr.refl [] w).alloc (.cells #[] 29)
  have HF0 := Lib.hid hf0; clear hf0
  have x0 : (0 : Int) ≤ (k : Int) := by omega
  have x1 : (k : Int) ≤ (n : Int) := by omega
  have x2 : (k : Int) ≤ (c : Int) := by omega
  have x3 : (k : Int) + 1 ≤ (n : Int) := by omega
  have x4 : (k : Int) + 1 ≤ (c : Int) := by omega
  go_enter Try.func9, Try.ntmps9
  have HR1 := Lib.hid ((HV.out.upto k (by omega)).fr HF0.out)
  by_cases hcap : c = k + 1
  · have hnk : n = k + 1 := by omega
    subst hnk
    subst hcap
    go_wp2_with (first
      | (at_builtin; (with_reducible refine wpList_app2 rfl (.tmp 6) (.tmp 9) 22 rfl 29 infoNode Try.underlying22 rfl HE0.out rfl HR1.out rfl (by unfold maxLen; omega) (by omega) (by simp) ?_); intro v5 w5 ho5 hf5 hn5; rw [Nat.zero_add] at ho5; have HF5 := Lib.hid (HF0.out.trans hf5 (fun y hy => .inr (HE0.out.ge y hy))); have HO5 := Lib.hid (ho5.congr (q := p) (fun j hj => by simp [app2])); have HV5 := Lib.hid (HV.out.fr HF5.out); have hsz := HF5.out.size; obtain ⟨a5, c5, hv5⟩ := ho5.rd.slice; subst hv5; clear ho5 hf5 hn5)
      | (at_builtin; refine wpList_app2 rfl (.tmp 11) (.tmp 15) 22 rfl 29 infoNode Try.underlying22 rfl HO5.out rfl (HV5.out.none' p) rfl (by unfold maxLen; omega) (by omega) (by omega) ?_; intro v6 w6 ho6 hf6 hn6; have HF6 := Lib.hid (HF5.out.trans hf6 (fun y hy => .inr (HO5.out.ge y hy))); have HO6 := Lib.hid ho6; clear ho6 hf6 hn6))
    go_ret
    exact ⟨_, rfl, HO6.out.congr (fun j hj => by unfold app2 wo; rw [if_pos (by omega), if_pos (by omega)]), HF6.out⟩
  · have hc2 : k + 1 < c := by omega
    have hc3 : ¬ c = k + 1 := by omega
    have hc4 : (c == k + 1) = false := by simp; omega
    go_wp2_with (first
      | (at_builtin; (with_reducible refine wpList_app2 rfl (.tmp 6) (.tmp 9) 22 rfl 29 infoNode Try.underlying22 rfl HE0.out rfl HR1.out rfl (by unfold maxLen; omega) (by omega) (by simp) ?_); intro v5 w5 ho5 hf5 hn5; rw [Nat.zero_add] at ho5; have HF5 := Lib.hid (HF0.out.trans hf5 (fun y hy => .inr (HE0.out.ge y hy))); have HO5 := Lib.hid (ho5.congr (q := p) (fun j hj => by simp [app2])); have HV5 := Lib.hid (HV.out.fr HF5.out); have hsz := HF5.out.size; obtain ⟨a5, c5, hv5⟩ := ho5.rd.slice; subst hv5; clear ho5 hf5 hn5)
      | (at_builtin; refine wpList_app2 rfl (.tmp 11) (.tmp 15) 22 rfl 29 infoNode Try.underlying22 rfl HO5.out rfl (HV5.out.from (k + 1) (by omega)) rfl (by unfold maxLen; omega) (by omega) (by omega) ?_; intro v6 w6 ho6 hf6 hn6; have HF6 := Lib.hid (HF5.out.trans hf6 (fun y hy => .inr (HO5.out.ge y hy))); have HO6 := Lib.hid ho6; clear ho6 hf6 hn6))
    go_ret
    have e : k + (n - (k + 1)) = n - 1 := by omega
    have h := HO6.out
    rw [e] at h
    exact ⟨_, rfl, h.congr (fun j hj => by
      unfold app2 wo
      by_cases hj2 : j < k
      · rw [if_pos hj2, if_pos hj2]
      · rw [if_neg hj2, if_neg hj2]
        dsimp only
        rw [show k + 1 + (j - k) = j + 1 by omega]), HF6.out⟩

end Go.Proofs.Ytbaiaolgjlhioaa
