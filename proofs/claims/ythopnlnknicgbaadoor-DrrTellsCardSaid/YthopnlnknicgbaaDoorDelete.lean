/- slices.Delete of one element at []int, from a row of the call's own. -/
import Derived.Test.YthopnlnknicgbaaDoorRows
import Derived.Test.YthopnlnknicgbaaDoorInfo
import Derived.Deep.RegionLaw
import Derived.Lib.SliceRun
import Derived.Shelf.RegionOpenPlain
namespace Go.Proofs.YthopnlnknicgbaaDoor
open Go.RowKit

theorem RowF.setCells {g : Nat} {E : TypeId} {n cap : Nat} : ∀ (vs : List Value) (o : Nat) (w : World) (f : Nat → Value), RowF w g E n cap f →
    RowF (w.setCells g o vs) g E n cap (fun j => if o ≤ j ∧ j < o + vs.length then vs.getD (j - o) (.bool false) else f j)
  | [], o, w, f, h => h.congr (fun j _ => by rw [if_neg (by simp only [List.length_nil]; omega)])
  | v :: r, o, w, f, h => by
    have := RowF.setCells r (o + 1) (w.setCell ⟨g, o, none⟩ v) _ (h.stored o v)
    refine this.congr (fun j _ => ?_)
    by_cases h1 : j = o
    · subst h1
      rw [if_neg (by omega), if_pos rfl, if_pos (by simp), Nat.sub_self]
      rfl
    · by_cases h2 : o + 1 ≤ j ∧ j < o + 1 + r.length
      · rw [if_pos h2, if_pos (by simp; omega)]
        obtain ⟨k, rfl⟩ : ∃ k, j = o + 1 + k := ⟨j - (o + 1), by omega⟩
        rw [show o + 1 + k - (o + 1) = k by omega, show o + 1 + k - o = k + 1 by omega]
        rfl
      · rw [if_neg h2, if_neg h1, if_neg (by simp; omega)]

theorem Fr.setCells {g : Nat} {S : List Nat} {a : World} : ∀ (vs : List Value) (o : Nat) (w : World), Fr S a w → (g ∈ S ∨ a.heap.size ≤ g) → Fr S a (w.setCells g o vs)
  | [], _, _, h, _ => h
  | v :: r, o, w, h, hg => Fr.setCells r (o + 1) _ (h.setCell (p := ⟨g, o, none⟩) hg v) hg

set_option maxHeartbeats 4000000 in
set_option maxRecDepth 1000000 in
theorem delete_nat (w : World) (g n cap i q : Nat) (f : Nat → Int) (h : RowI w g n cap f) (hi : i < n) (hq : q = i + 1) :
    Calls Tryd.prog 52 #[.slice (some ⟨g, 0, none⟩) n cap, .int .i64 i, .int .i64 q] w fun e w' =>
      e = .returned (.slice (some ⟨g, 0, none⟩) (n - 1) cap) ∧ RowI w' g n cap (fun j => if j < i then f j else if j + 1 < n then f (j + 1) else 0) ∧ Fr [g] w w' := by
  have hnc := h.le
  have hcm := h.cap_le
  unfold maxLen at hcm
  obtain ⟨i0, hi0, hz0, hz1, hz2⟩ := info_parts infoInt
  obtain ⟨news, hnews⟩ : ∃ news, news = vals (n - q) (fun j => .int .i64 (f (q + j))) := ⟨_, rfl⟩
  have hlen : news.length = n - q := by rw [hnews, vals_len]
  obtain ⟨A, hA, hsrc⟩ : ∃ A : Addr, (if cap = q then some (⟨g, 0, none⟩ : Addr) else some ⟨g, q, none⟩) = some A ∧ Hid (∀ t u, news[t]? = some u → w.drew.cell? (A.add t) = some u) := by
    by_cases hc : cap = q
    · refine ⟨⟨g, 0, none⟩, by simp [hc], fun t u hu => ?_⟩
      have h0 : news.length = 0 := by rw [hlen]; omega
      rw [List.length_eq_zero_iff.1 h0] at hu
      simp at hu
    · refine ⟨⟨g, q, none⟩, by simp [hc], fun t u hu => ?_⟩
      rw [hnews] at hu
      obtain ⟨ht, rfl⟩ := vals_get' hu
      rw [Addr.add_lit]
      exact h.cell (q + t) (by omega)
  have s1 : Hid (news.length = (n - q) * 1) := by rw [Nat.mul_one]; exact hlen
  have s2 : Hid (∀ u ∈ news, u.oneCell' = true) := by
    intro u hu
    rw [hnews] at hu
    exact vals_int _ .i64 _ u hu
  have s3 : Hid (∀ t, t < news.length → (w.drew.cell? ⟨g, 0 + i * 1 + t, none⟩).isSome = true ∧ w.drew.frozen? ⟨g, 0 + i * 1 + t, none⟩ = false) := by
    intro t ht
    rw [hlen] at ht
    rw [Nat.mul_one, Nat.zero_add]
    exact ⟨by show (w.cell? _).isSome = true; rw [h.cell (i + t) (by omega)]; rfl, h.frozen (i + t)⟩
  obtain ⟨W1, hW1⟩ : ∃ W1, W1 = w.drew.setCells g (0 + i * 1) news := ⟨_, rfl⟩
  have hR1 : RowI W1 g n cap (fun j => if i ≤ j ∧ j + 1 < n then f (j + 1) else f j) := by
    rw [hW1]
    refine (RowF.setCells news (0 + i * 1) w.drew _ (h.kept ((Fr.refl [] w).drew) (by simp))).congr (fun j hj => ?_)
    simp only [hlen, Nat.zero_add, Nat.mul_one]
    by_cases hc : i ≤ j ∧ j < i + (n - q)
    · rw [if_pos hc, if_pos (by omega), hnews, List.getD, vals_get _ _ _ (by omega)]
      simp only [Option.getD_some]
      rw [show q + (j - i) = j + 1 by omega]
    · rw [if_neg hc, if_neg (by omega)]
  have hF1 : Fr [g] w W1 := by rw [hW1]; exact Fr.setCells _ _ _ ((Fr.refl [g] w).drew) (.inl (by simp))
  have hcl : ∀ ty, (Builtin.clear_ #[22] ty #[.slice (some ⟨g, i + (n - q), none⟩) (n - (i + (n - q))) (cap - (i + (n - q)))]).run Tryd.prog W1 = .ok (.tuple #[]) (W1.setCells g (i + (n - q)) (List.replicate (n - (i + (n - q))) (.int .i64 0))) :=
    fun ty => Lib.run_clear_slice W1 _ _ ty _ Tryd.underlying22 (fun w => by simp [go_sem]) rfl rfl g (i + (n - q)) _ _ (by omega) (fun t ht => by rw [hR1.cell _ (by omega)]; rfl) (fun t ht => hR1.frozen _)
  have HR1 := Lib.hid hR1; clear hR1
  have HF1 := Lib.hid hF1; clear hF1
  have hW : Hid (W1 = w.drew.setCells g (0 + i * 1) news) := hW1
  have hij : ¬ i = q := by omega
  have hic : i ≤ cap := by omega
  have hjc : q ≤ cap := by omega
  have hqn : q ≤ n := by omega
  have hiq : i ≤ q := by omega
  have HQ := Lib.hid hq
  clear hW1 h hnews hlen hq
  go_enter Tryd.func52, Tryd.ntmps52
  go_wp2_with fail
  go_region_law (refine step_append_room rfl (.tmp 22) (.tmp 25) 22 rfl 3 i0 1 Tryd.underlying22 hi0 hz1 g 0 i cap (by simp [Act.eval, Act.put]) A (n - q) (cap - q) news (by simp [Act.eval, Act.put, hA]) s1.out hsrc.out s2.out (by omega) s3.out ?_; rw [← hW.out])
  go_wp2
  go_ret
  have e1 : i + (n - q) = n - 1 := by have := HQ.out; omega
  refine ⟨by rw [← e1]; rfl, ?_, Fr.setCells _ _ _ HF1.out (.inl (by simp))⟩
  refine (RowF.setCells _ (i + (n - q)) W1 _ HR1.out).congr (fun j hj => ?_)
  simp only [List.length_replicate]
  by_cases hc : i + (n - q) ≤ j ∧ j < i + (n - q) + (n - (i + (n - q)))
  · rw [if_pos hc, if_neg (by omega), if_neg (by omega), List.getD, List.getElem?_replicate, if_pos (by omega)]
    rfl
  · rw [if_neg hc]
    by_cases h2 : j < i
    · rw [if_neg (by omega), if_pos h2]
    · rw [if_pos (by omega), if_neg h2, if_pos (by omega)]

theorem delete_any (w : World) (g n cap i : Nat) (f : Nat → Int) (h : RowI w g n cap f) (hi : i < n) :
    Calls Tryd.prog 52 #[.slice (some ⟨g, 0, none⟩) n cap, .int .i64 i, .int .i64 ((i : Int) + 1)] w fun e w' =>
      e = .returned (.slice (some ⟨g, 0, none⟩) (n - 1) cap) ∧ RowI w' g n cap (fun j => if j < i then f j else if j + 1 < n then f (j + 1) else 0) ∧ Fr [g] w w' :=
  delete_nat w g n cap i (i + 1) f h hi rfl

end Go.Proofs.YthopnlnknicgbaaDoor
