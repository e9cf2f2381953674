/- those nodes that are in: the plain law. -/
import Derived.Test.YtbaiaolgjlhioaaDoorPairsSort
import Derived.Test.YtbaiaolgjlhioaaDoorNodes
namespace Go.Proofs.YtbaiaolgjlhioaaDoor
open Go.RowKit Go.Sort

theorem infoNode : (Tryd.prog.info? 24).map (fun i => (i.zero, i.size, i.bytes)) = some (some (.agg #[.int .i64 0, .int .i64 0]), 2, 16) := by kernel_rfl

/-- those of the first k that g lets in -/
def som (p : Nat → Int × Int) (g : Nat → Bool) : Nat → List (Int × Int)
  | 0 => []
  | k + 1 => som p g k ++ (if g k then [p k] else [])

theorem som_len (p : Nat → Int × Int) (g : Nat → Bool) (k : Nat) : (som p g k).length ≤ k := by
  induction k with
  | zero => simp [som]
  | succ k ih => simp only [som, List.length_append]; split <;> simp <;> omega

theorem som_mem (p : Nat → Int × Int) (g : Nat → Bool) (k : Nat) (x : Int × Int) : x ∈ som p g k ↔ ∃ j, j < k ∧ g j = true ∧ x = p j := by
  induction k with
  | zero => simp [som]
  | succ k ih =>
    simp only [som, List.mem_append, ih]
    constructor
    · rintro (⟨j, h1, h2, h3⟩ | h)
      · exact ⟨j, by omega, h2, h3⟩
      · by_cases hg : g k = true
        · rw [if_pos hg, List.mem_singleton] at h
          exact ⟨k, by omega, hg, h⟩
        · rw [if_neg hg] at h
          cases h
    · rintro ⟨j, h1, h2, h3⟩
      by_cases hj : j = k
      · subst hj
        rw [if_pos h2]
        exact .inr (by simp [h3])
      · exact .inl ⟨j, by omega, h2, h3⟩

theorem app2_one (w : World) (B : Nat) (E : TypeId) (v : Value) (L : List (Int × Int)) (x : Int × Int) (h : OwnP w B E v (L.length + 1) (app2 L.length (lp L) (fun _ => x))) : OwnP w B E v (L ++ [x]).length (lp (L ++ [x])) := by
  have e : (L ++ [x]).length = L.length + 1 := by simp
  rw [e]
  refine h.congr (fun j hj => ?_)
  have := lp_app L [x] j (by simpa using hj)
  rw [← this]
  unfold app2
  by_cases hl : j < L.length
  · rw [if_pos hl, if_pos hl]
  · rw [if_neg hl, if_neg hl]
    have : j - L.length = 0 := by omega
    rw [this]
    rfl

theorem ownp_empty (w : World) (E : TypeId) (p : Nat → Int × Int) : OwnP (w.alloc (.cells #[] E)) w.heap.size E (.slice (some ⟨w.heap.size, 0, none⟩) 0 0) 0 p :=
  .inr ⟨_, 0, rfl, Nat.le_refl _, #[], heap_alloc_new w _, rfl, Nat.le_refl _, by decide, fun j hj => by omega⟩

end Go.Proofs.YtbaiaolgjlhioaaDoor
