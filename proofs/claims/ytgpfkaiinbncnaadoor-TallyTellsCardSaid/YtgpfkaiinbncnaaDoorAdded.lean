/- added(): the one call that is known. -/
import Derived.Test.YtgpfkaiinbncnaaDoorTally
import Derived.Test.YtgpfkaiinbncnaaDoorInts
namespace Go.Proofs.YtgpfkaiinbncnaaDoor
open Go.RowKit

set_option maxHeartbeats 1000000 in
theorem added_any (w : World) : Calls Tryd.prog 19 #[] w fun e w' => e = .returned (.bool true) ∧ Fr [] w w' := by
  go_enter Tryd.func19, Tryd.ntmps19
  go_wp2_with fail
  refine (tally_add w (.slice none 0 0) 0 (fun _ => 0) (.inl ⟨rfl, rfl⟩) (by omega) (fun j hj => by omega) 5 (by omega) (by omega)).mono ?_
  rintro e w1 ⟨g, rfl, hg, ⟨cap, hr⟩, hf⟩
  have e5 : plc 5 = 3 := by decide
  have et : trm (fun j => if j = plc 5 then pl64 0 (fun _ => 0) j + 1 else pl64 0 (fun _ => 0) j) 64 = 4 := by rw [e5]; decide
  rw [et]
  have hlt := hr.lt
  have hv1 : RdF (w1.alloc (.cells #[.int .i64 0, .int .i64 0, .int .i64 0, .int .i64 1] 3)) (.slice (some ⟨g, 0, none⟩) 4 4) 4 (fun j => .int .i64 (if j = 3 then 1 else 0)) := by
    have h := ((hr.take 4 (by omega)).alloc (.cells #[.int .i64 0, .int .i64 0, .int .i64 0, .int .i64 1] 3))
    refine .inr ⟨_, 4, rfl, Nat.le_refl _, by decide, fun j hj => ?_⟩
    have e : (⟨g, 0, none⟩ : Addr).add j = ⟨g, j, none⟩ := by unfold Addr.add; split <;> simp_all
    rw [e, h.cell j hj, e5]
    simp [pl64]
  have hv2 : RdF (w1.alloc (.cells #[.int .i64 0, .int .i64 0, .int .i64 0, .int .i64 1] 3)) (.slice (some ⟨w1.heap.size, 0, none⟩) 4 4) 4 (fun j => .int .i64 (if j = 3 then 1 else 0)) :=
    (row_lit w1 #[.int .i64 0, .int .i64 0, .int .i64 0, .int .i64 1] 3 4 _ rfl (by decide) (fun j hj => by
      rcases (by omega : j = 0 ∨ j = 1 ∨ j = 2 ∨ j = 3) with rfl | rfl | rfl | rfl <;> rfl)).rd
  have HV1 := Lib.hid hv1
  have HV2 := Lib.hid hv2
  have HF := Lib.hid (hf.alloc (.cells #[.int .i64 0, .int .i64 0, .int .i64 0, .int .i64 1] 3))
  clear hv1 hv2 hf hr et e5
  go_wp2_with fail
  refine (ints_any _ _ _ _ _ _ _ _ _ HV1.out HV2.out (by omega) (by omega)).mono ?_
  rintro e w5 ⟨rfl, q5, rfl⟩
  have he5 : (decide ((4 : Nat) = 4) && eqUpTo (fun j => if j = 3 then (1 : Int) else 0) (fun j => if j = 3 then (1 : Int) else 0) 4) = true := by
    simp [(eqUpTo_iff _ _ _).2]
  rw [he5]
  clear he5
  go_wp2
  go_ret
  exact ⟨rfl, HF.out.drewN q5⟩

end Go.Proofs.YtgpfkaiinbncnaaDoor
