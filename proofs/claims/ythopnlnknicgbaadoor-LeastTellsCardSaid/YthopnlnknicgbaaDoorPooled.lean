/- least: the law that each law over it begins with. -/
import Derived.Test.YthopnlnknicgbaaDoorLeast
namespace Go.Proofs.YthopnlnknicgbaaDoor
open Go.RowKit

set_option maxHeartbeats 1000000 in
theorem pooled_any (w : World) : Calls Tryd.prog 9 #[] w fun e w' => e = .returned (.bool true) ∧ Fr [] w w' := by
  go_enter Tryd.func9, Tryd.ntmps9
  go_wp2_with fail
  refine (least_new _ 2).mono ?_
  rintro e w1 ⟨hf1, ⟨_, p, g, rfl, hp, hg, hP⟩ | ⟨hno, _⟩⟩
  · have hP1 : Pool w1 p g 2 2 (fun _ => 0) := hP
    clear hP
    go_wp2_with fail
    refine (least_start _ p g 2 2 _ hP1 (by omega) (by omega) (fun j _ => by simp)).mono ?_
    rintro e w2 ⟨rfl, hP, hf2⟩
    have hP2 : Pool w2 p g 2 2 (fun j => if j = 0 then 1 else 0) := hP.congr (fun j hj => by rcases (by omega : j = 0 ∨ j = 1) with rfl | rfl <;> rfl)
    have HF2 := Lib.hid (hf1.trans hf2 (S := []) (by simp; omega)); clear hP hf2
    rw [show lst (fun _ => 0) 2 = 0 from rfl]
    go_wp2_with fail
    refine (least_start _ p g 2 2 _ hP2 (by omega) (by omega) (fun j _ => by split <;> omega)).mono ?_
    rintro e w3 ⟨rfl, hP, hf3⟩
    have hP3 : Pool w3 p g 2 2 (fun _ => 1) := hP.congr (fun j hj => by rcases (by omega : j = 0 ∨ j = 1) with rfl | rfl <;> rfl)
    have HF3 := Lib.hid (HF2.out.trans hf3 (S := []) (by simp; omega)); clear hP hf3
    rw [show lst (fun j => if j = 0 then 1 else 0) 2 = 1 from rfl]
    go_wp2_with fail
    refine (least_end _ p g 2 2 _ 0 hP3 (by omega) (by omega) (by omega)).mono ?_
    rintro e w4 ⟨rfl, hP, hf4⟩
    have hP4 : Pool w4 p g 2 2 (fun j => if j = 0 then 0 else 1) := hP.congr (fun j hj => by rcases (by omega : j = 0 ∨ j = 1) with rfl | rfl <;> rfl)
    have HF4 := Lib.hid (HF3.out.trans hf4 (S := []) (by simp; omega)); clear hP hf4
    go_wp2_with fail
    refine (least_start _ p g 2 2 _ hP4 (by omega) (by omega) (fun j _ => by split <;> omega)).mono ?_
    rintro e w5 ⟨rfl, hP, hf5⟩
    have HF5 := Lib.hid (HF4.out.trans hf5 (S := []) (by simp; omega)); clear hP hf5
    rw [show lst (fun j => if j = 0 then 0 else 1) 2 = 0 from rfl]
    go_wp2
    go_ret
    exact ⟨rfl, HF5.out⟩
  · exact absurd (by unfold LOk; omega) hno

end Go.Proofs.YthopnlnknicgbaaDoor
