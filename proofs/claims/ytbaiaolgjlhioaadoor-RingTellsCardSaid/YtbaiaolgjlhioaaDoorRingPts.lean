/- The points of a ring, sorted. -/
import Derived.Test.YtbaiaolgjlhioaaDoorPairsSort
import Derived.Test.YtbaiaolgjlhioaaDoorRingSort
import Derived.Test.YtbaiaolgjlhioaaDoorCmp
namespace Go.Proofs.YtbaiaolgjlhioaaDoor
open Go.RowKit Go.Sort Go.Shelf

theorem lt_cf2 (x y : Int × Int) : ltOf cf2 x y = decide (x.1 < y.1 ∨ (x.1 = y.1 ∧ x.2 < y.2)) := by
  unfold ltOf
  have h : cf2 x y < 0 ↔ (x.1 < y.1 ∨ (x.1 = y.1 ∧ x.2 < y.2)) := by
    unfold cf2 co ci
    by_cases h1 : x.1 < y.1
    · simp [h1]
    · by_cases h2 : y.1 < x.1
      · simp [h1, h2]; omega
      · by_cases h3 : x.2 < y.2
        · simp [h1, h2, h3]; omega
        · by_cases h4 : y.2 < x.2
          · simp [h1, h2, h3, h4]
          · simp [h1, h2, h3, h4]
  exact decide_eq_decide.2 h

theorem swo2 : SWO (ltOf cf2) where
  irrefl x := by rw [lt_cf2]; simp
  trans x y z h1 h2 := by rw [lt_cf2] at *; simp at *; omega
  ntrans x y z h1 h2 := by rw [lt_cf2] at *; simp at *; omega

theorem tot2 (x y : Int × Int) (h1 : ltOf cf2 x y = false) (h2 : ltOf cf2 y x = false) : x = y := by
  rw [lt_cf2] at *
  simp at h1 h2
  apply Prod.ext <;> omega

/-- the points in their order -/
def srt (L : List (Int × Int)) : List (Int × Int) := L.mergeSort fun x y => !(ltOf cf2) y x

theorem srt_len (L : List (Int × Int)) : (srt L).length = L.length := by simp [srt]
theorem srt_mem (L : List (Int × Int)) (x : Int × Int) : x ∈ srt L ↔ x ∈ L := by simp [srt]

theorem srt_sorted (L : List (Int × Int)) (i j : Nat) (hi : i < j) (hj : j < L.length) : ltOf cf2 (lp (srt L) j) (lp (srt L) i) = false := by
  have h := List.pairwise_mergeSort (le := fun x y => !(ltOf cf2) y x) (fun a b c h1 h2 => by
    simp only [Bool.not_eq_true'] at *
    exact swo2.ntrans _ _ _ h2 h1) (fun a b => by
    simp only [Bool.or_eq_true, Bool.not_eq_true']
    rw [lt_cf2, lt_cf2]
    simp only [decide_eq_false_iff_not]
    omega) L
  have h2 := List.pairwise_iff_getElem.1 h i j (by have := srt_len L; unfold srt at this; omega) (by have := srt_len L; unfold srt at this; omega) hi
  rw [lp_get (by rw [srt_len]; omega), lp_get (by rw [srt_len]; omega)]
  simpa [srt] using h2

theorem cmpLays_ring (blk off size : Nat) (w : World) : CmpLays Tryd.prog 30 #[] enc2 2 cf2 blk off size w :=
  fun _ _ _ _ x y => compare_any _ x y

theorem sort_ring (w : World) (B : Nat) (v : Value) (L : List (Int × Int)) (h : OwnP w B 62 v L.length (lp L)) (hL : L.length < 4611686018427387904) :
    Calls Tryd.prog 35 #[v, .func (.func 30) #[] #[]] w fun e w' =>
      e = .returned (.tuple #[]) ∧ OwnP w' B 62 v (srt L).length (lp (srt L)) ∧ Fr v.ownBlock.toList w w' := by
  rcases h with ⟨rfl, h0⟩ | ⟨g, cap, rfl, hb, h⟩
  · have hc := AnyF.slices_SortFunc_none ringSortLays none 0 (.func (.func 30) #[] #[]) w
    change Calls Tryd.prog 35 _ _ _ at hc
    refine hc.mono ?_
    rintro e w' ⟨rfl, rfl⟩
    exact ⟨rfl, .inl ⟨rfl, by rw [srt_len, h0]⟩, Fr.refl _ _⟩
  · have eg : ∀ args w, (callFunc 30 args).run Tryd.prog w = .ok (.enter 30 args) w := enters_of Tryd.func30 (by kernel_rfl) rfl
    have hc := AnyQ.slices_SortFunc_total ringSortLays 2 Tryd.isAgg62 Tryd.sizeOf62 enc2 (fun _ => rfl) (fun x v hv => by simp [enc2] at hv; rcases hv with rfl | rfl <;> rfl) cf2 swo2 30 #[] g 0 cap L.toArray w eg (cmpLays_ring g 0 _ w) h.holds h.lt (by simpa using hL) tot2
    change Calls Tryd.prog 35 _ _ _ at hc
    have e : L.toArray.size = L.length := by simp
    rw [e] at hc
    refine hc.mono ?_
    rintro e w' ⟨rfl, n, os, rfl⟩
    obtain ⟨h1, h2⟩ := h.sorted (srt_len L) n os
    exact ⟨rfl, .inr ⟨g, cap, by rw [srt_len], hb, h1⟩, h2⟩

end Go.Proofs.YtbaiaolgjlhioaaDoor
