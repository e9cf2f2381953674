/- Rows of pairs, sorted by the library: the bridge to its words. -/
import Derived.Shelf.SlSortCmp.NoneTotal
import Derived.Test.YtcfdlilhhfaaaaaDoorZbase1
namespace Go.Proofs.YtcfdlilhhfaaaaaDoor
open Go.RowKit Go.Sort

/-- a list of pairs, by the index -/
def lp (L : List (Int × Int)) (j : Nat) : Int × Int := L.getD j (0, 0)

theorem lp_get {L : List (Int × Int)} {j : Nat} (h : j < L.length) : lp L j = L[j] := by
  unfold lp
  rw [List.getD_eq_getElem?_getD, List.getElem?_eq_getElem h]
  rfl

theorem lp_mem {L : List (Int × Int)} {j : Nat} (h : j < L.length) : lp L j ∈ L := by rw [lp_get h]; exact List.getElem_mem h

theorem lp_app (L M : List (Int × Int)) (j : Nat) (hj : j < L.length + M.length) : app2 L.length (lp L) (lp M) j = lp (L ++ M) j := by
  unfold app2 lp
  by_cases h : j < L.length
  · rw [if_pos h, List.getD_eq_getElem?_getD, List.getD_eq_getElem?_getD, List.getElem?_append_left h]
  · rw [if_neg h, List.getD_eq_getElem?_getD, List.getD_eq_getElem?_getD, List.getElem?_append_right (by omega)]

def enc2 (x : Int × Int) : List Value := [.int .i64 x.1, .int .i64 x.2]

theorem flat2 (L : List (Int × Int)) (t : Nat) (ht : t < L.length * 2) : (flatK enc2 2 L.toArray)[t]! = fl2 (lp L) t := by
  rw [get_flatK _ _ _ _ (by simpa using ht)]
  have hj : t / 2 < L.length := by omega
  have e : L.toArray[t / 2]! = lp L (t / 2) := by
    rw [lp_get hj]
    simp [hj]
  rw [e]
  unfold fl2 enc2
  have h2 : t % 2 = 0 ∨ t % 2 = 1 := by omega
  rcases h2 with h | h <;> rw [h] <;> rfl

theorem flat2_size (L : List (Int × Int)) : (flatK enc2 2 L.toArray).size = L.length * 2 := by simp

theorem RowP.holds {w : World} {g : Nat} {E : TypeId} {cap : Nat} {L : List (Int × Int)} (h : RowP w g E L.length cap (lp L)) : HoldsK enc2 2 w g 0 L.toArray := by
  obtain ⟨cur, h1, h2, h3, h4, h5⟩ := h
  intro j hj
  rw [flat2_size] at hj
  have e := h5 j hj
  rw [flat2 L j hj]
  simp [World.cell?, World.frozen?, h1, e]

theorem RowP.sorted {w : World} {g : Nat} {E : TypeId} {cap : Nat} {L M : List (Int × Int)} (h : RowP w g E L.length cap (lp L)) (hl : M.length = L.length) (n : Nat) (os : Array Obj) :
    RowP (sortWorldK enc2 2 w g 0 n M.toArray os) g E M.length cap (lp M) ∧ Fr [g] w (sortWorldK enc2 2 w g 0 n M.toArray os) := by
  obtain ⟨cur, h1, h2, h3, h4, h5⟩ := h
  have hg := lt_of_blk h1
  refine ⟨⟨putCells id 0 (flatK enc2 2 M.toArray) cur, ?_, by simp [putCells, h2], by omega, h4, fun j hj => ?_⟩, ⟨rfl, rfl, rfl, ?_, fun k hk hne => ?_⟩⟩
  · unfold sortWorldK putRowK
    rw [heap_grow_old _ _ (by simpa [putRow, mapBlock, Sort.ahead] using hg)]
    simp [putRow, mapBlock, Sort.ahead, Array.getElem?_modify, h1, onCells]
  · have hjc : j < cur.size := by omega
    have e := flat2 M j hj
    have hfs := flat2_size M
    unfold putCells
    rw [Array.getElem?_mapIdx, Array.getElem?_eq_getElem hjc]
    simp only [Option.map_some, Option.some.injEq]
    rw [if_pos (by rw [hfs]; omega), Nat.sub_zero]
    exact e
  · simp [sortWorldK, putRowK, grow, putRow, mapBlock, Sort.ahead]
  · unfold sortWorldK putRowK
    rw [heap_grow_old _ _ (by simpa [putRow, mapBlock, Sort.ahead] using hk)]
    have : g ≠ k := fun e => hne (by simp [e])
    simp [putRow, mapBlock, Sort.ahead, Array.getElem?_modify, this]

end Go.Proofs.YtcfdlilhhfaaaaaDoor
