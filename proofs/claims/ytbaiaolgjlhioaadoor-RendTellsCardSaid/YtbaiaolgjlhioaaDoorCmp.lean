/- cmp.Compare, cmp.Or at ints; ring.compare. -/
import Derived.Test.YtbaiaolgjlhioaaDoorPairs
import Derived.Test.YtbaiaolgjlhioaaDoorInfo
import Derived.IntWalk
import Derived.Sort.Grow
import Derived.Deep.RegionHeld3
namespace Go.Proofs.YtbaiaolgjlhioaaDoor
open Go.RowKit

def ci (x y : Int) : Int := if x < y then -1 else if y < x then 1 else 0

/-- the first one that is not 0 -/
def co (a b : Int) : Int := if a = 0 then b else a

theorem isNaN_any (w : World) (x : Int) : Calls Tryd.prog 33 #[.int .i64 x] w fun e w' => e = .returned (.bool false) ∧ w = w' := by
  go_enter Tryd.func33, Tryd.ntmps33
  go_wp2
  go_ret
  exact ⟨by simp, rfl⟩

theorem cmpc_any (w : World) (x y : Int) : Calls Tryd.prog 24 #[.int .i64 x, .int .i64 y] w fun e w' => e = .returned (.int .i64 (ci x y)) ∧ w = w' := by
  go_enter Tryd.func24, Tryd.ntmps24
  by_cases h1 : x < y
  · have e : ci x y = -1 := by unfold ci; rw [if_pos h1]
    have HE := Lib.hid e; clear e
    go_wp2_with (go_at_call 33; refine (isNaN_any _ _).mono ?_; rintro e w' ⟨rfl, rfl⟩)
    go_ret
    exact ⟨by rw [HE.out]; rfl, rfl⟩
  · by_cases h2 : y < x
    · have e : ci x y = 1 := by unfold ci; rw [if_neg h1, if_pos h2]
      have HE := Lib.hid e; clear e
      go_wp2_with (go_at_call 33; refine (isNaN_any _ _).mono ?_; rintro e w' ⟨rfl, rfl⟩)
      go_ret
      exact ⟨by rw [HE.out]; rfl, rfl⟩
    · have e : ci x y = 0 := by unfold ci; rw [if_neg h1, if_neg h2]
      have HE := Lib.hid e; clear e
      go_wp2_with (go_at_call 33; refine (isNaN_any _ _).mono ?_; rintro e w' ⟨rfl, rfl⟩)
      go_ret
      exact ⟨by rw [HE.out]; rfl, rfl⟩

theorem or_any (w : World) (g : Nat) (a b : Int) (h : w.heap[g]? = some (.cells #[.int .i64 a, .int .i64 b] 3 (0, 0))) :
    Calls Tryd.prog 23 #[.slice (some ⟨g, 0, none⟩) 2 2] w fun e w' => e = .returned (.int .i64 (co a b)) ∧ w = w' := by
  have c0 := blk_cell (v := .int .i64 a) h 0 rfl
  have c1 := blk_cell (v := .int .i64 b) h 1 rfl
  clear h
  go_enter Tryd.func23, Tryd.ntmps23
  by_cases h0 : a = 0
  · have e : co a b = b := by unfold co; rw [if_pos h0]
    have HE := Lib.hid e; clear e
    subst h0
    go_wp2
    refine wp_loop_rounds 3 ?_
    rw [rounds_succ]
    by_cases h1 : b = 0
    · subst h1
      go_wp2
      rw [rounds_succ]
      go_wp2
      rw [rounds_succ]
      go_wp2
      go_ret
      exact ⟨by rw [HE.out]; rfl, rfl⟩
    · have hb : (b != 0) = true := by simp [h1]
      go_wp2
      rw [rounds_succ]
      go_wp2
      go_ret
      exact ⟨by rw [HE.out]; rfl, rfl⟩
  · have e : co a b = a := by unfold co; rw [if_neg h0]
    have HE := Lib.hid e; clear e
    have ha : (a != 0) = true := by simp [h0]
    go_wp2
    refine wp_loop_rounds 3 ?_
    rw [rounds_succ]
    go_wp2
    go_ret
    exact ⟨by rw [HE.out]; rfl, rfl⟩

theorem or_new (w : World) (g : Nat) (a b : Int) (h : w.heap.size = g) :
    Calls Tryd.prog 23 #[.slice (some ⟨g, 0, none⟩) 2 2] (w.alloc (.cells #[.int .i64 a, .int .i64 b] 3)).drew fun e w' => e = .returned (.int .i64 (co a b)) ∧ (w.alloc (.cells #[.int .i64 a, .int .i64 b] 3)).drew = w' := by
  subst h
  exact or_any _ _ a b (heap_alloc_new _ _)

/-- more draws, more blocks: nothing else -/
def GR (w w' : World) : Prop := ∃ (q : Nat) (os : Array Obj), w' = Sort.grow (w.drewN q) os

theorem GR.refl (w : World) : GR w w := ⟨0, #[], by rw [Sort.grow_empty]; rfl⟩
theorem GR.alloc {w w' : World} (h : GR w w') (o : Obj) : GR w (w'.alloc o) := by
  obtain ⟨q, os, rfl⟩ := h
  exact ⟨q, os ++ #[o], by rw [Sort.alloc_eq_grow, Sort.grow_grow]⟩
theorem GR.drewN {w w' : World} (h : GR w w') (n : Nat) : GR w (w'.drewN n) := by
  obtain ⟨q, os, rfl⟩ := h
  exact ⟨q + n, os, by simp [Sort.grow, World.drewN, Nat.add_assoc]⟩
theorem GR.drew {w w' : World} (h : GR w w') : GR w w'.drew := h.drewN 1

/-- compare: the hashes, then the numbers -/
def cf2 (x y : Int × Int) : Int := co (ci x.1 y.1) (ci x.2 y.2)

set_option maxHeartbeats 2000000 in
theorem compare_any (W : World) (x y : Int × Int) :
    Calls Tryd.prog 30 #[.agg #[.int .i64 x.1, .int .i64 x.2], .agg #[.int .i64 y.1, .int .i64 y.2]] W fun e w' => e = .returned (.int .i64 (cf2 x y)) ∧ GR W w' := by
  obtain ⟨x1, x2⟩ := x
  obtain ⟨y1, y2⟩ := y
  simp only []
  unfold cf2
  have hg := ((GR.refl W).alloc (.cells #[.int .i64 x1, .int .i64 x2] 62)).alloc (.cells #[.int .i64 y1, .int .i64 y2] 62)
  have HG := Lib.hid hg; clear hg
  have b0 := ((Fr.refl [] (W.alloc (.cells #[.int .i64 x1, .int .i64 x2] 62))).alloc (.cells #[.int .i64 y1, .int .i64 y2] 62)).blk (heap_alloc_new W (.cells #[.int .i64 x1, .int .i64 x2] 62)) (by simp)
  have b1 := heap_alloc_new (W.alloc (.cells #[.int .i64 x1, .int .i64 x2] 62)) (.cells #[.int .i64 y1, .int .i64 y2] 62)
  rw [World.size_alloc] at b1
  have c0 := blk_cell (v := .int .i64 x1) b0 0 rfl
  have c1 := blk_cell (v := .int .i64 x2) b0 1 rfl
  have c2 := blk_cell (v := .int .i64 y1) b1 0 rfl
  have c3 := blk_cell (v := .int .i64 y2) b1 1 rfl
  clear b0 b1
  go_enter Tryd.func30, Tryd.ntmps30
  go_wp2_with fail
  generalize (W.alloc (.cells #[.int .i64 x1, .int .i64 x2] 62)).alloc (.cells #[.int .i64 y1, .int .i64 y2] 62) = w1 at *
  have HK := Lib.hid (fun (w' : World) (h : Fr [] w1 w') => (⟨h.cell c0 (by simp), h.cell c1 (by simp), h.cell c2 (by simp), h.cell c3 (by simp)⟩ : w'.cell? ⟨W.heap.size, 0, none⟩ = some (.int .i64 x1) ∧ w'.cell? ⟨W.heap.size, 1, none⟩ = some (.int .i64 x2) ∧ w'.cell? ⟨W.heap.size + 1, 0, none⟩ = some (.int .i64 y1) ∧ w'.cell? ⟨W.heap.size + 1, 1, none⟩ = some (.int .i64 y2)))
  go_region_held3 (fun w' => w'.cell? ⟨W.heap.size, 0, none⟩ = some (.int .i64 x1) ∧ w'.cell? ⟨W.heap.size, 1, none⟩ = some (.int .i64 x2) ∧ w'.cell? ⟨W.heap.size + 1, 0, none⟩ = some (.int .i64 y1) ∧ w'.cell? ⟨W.heap.size + 1, 1, none⟩ = some (.int .i64 y2))
    (first | exact HK.out _ (Fr.refl _ _) | exact HK.out _ ((Fr.refl [] w1).drew) | exact HK.out _ (((Fr.refl [] w1).alloc _).drew))
    (first
    | (go_at_call 24; refine (cmpc_any _ _ _).mono ?_; rintro e w' ⟨rfl, rfl⟩)
    | (go_at_call 23; refine (or_new _ _ _ _ (by simp)).mono ?_; rintro e w' ⟨rfl, rfl⟩))
  all_goals
    go_wp2
    go_ret
    exact ⟨rfl, (HG.out.alloc _).drew⟩

end Go.Proofs.YtbaiaolgjlhioaaDoor
