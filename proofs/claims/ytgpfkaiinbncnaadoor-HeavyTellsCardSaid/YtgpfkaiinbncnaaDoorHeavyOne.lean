/- pointsmanlaw5.kept: one key, added once, is kept. -/
import Derived.Test.YtgpfkaiinbncnaaDoorHeavyKept
namespace Go.Proofs.YtgpfkaiinbncnaaDoor
open Go.RowKit Go.Maps

set_option maxRecDepth 100000 in
set_option maxHeartbeats 4000000 in
theorem heavyOne_any (w : World) : Calls Tryd.prog 29 #[] w fun e w' => e = .returned (.bool true) ∧ Fr [] w w' := by
  have HNEW := Lib.hid (heavyNew_ok w 1 (by omega) (by omega))
  have HADD := Lib.hid (fun (w' : World) (p b : Nat) (h : Hv w' p b 1 0 []) => heavyAdd_any w' p b 1 0 [] h (by omega) 7 (by omega))
  have HKEP := Lib.hid (fun (w' : World) (p b : Nat) (h : Hv w' p b 1 1 [(7, 1)]) => heavyKept_any w' p b 1 1 [(7, 1)] h)
  have e1 : kp [] 1 7 = [(7, 1)] := by decide
  rw [e1] at HADD
  go_enter Tryd.func29, Tryd.ntmps29
  go_wp2_with (first
    | (go_at_call 30; refine HNEW.out.mono ?_; rintro e w2 ⟨rfl, h2, f2⟩; have HF2 := Lib.hid f2; have HV2 := Lib.hid h2; clear h2 f2)
    | (go_at_call 32; refine (HADD.out _ _ _ HV2.out).mono ?_; rintro e w3 ⟨rfl, h3, f3⟩; have HF3 := Lib.hid (HF2.out.trans f3 (S := []) (by simp)); have HV3 := Lib.hid h3; clear h3 f3)
    | (go_at_call 33; refine (HKEP.out _ _ _ HV3.out).mono ?_; rintro e w4 ⟨a4, c4, rfl, h4, f4⟩; obtain ⟨g4, cap4, he4, hg4, hrow4⟩ := h4.row (by decide); simp only [Value.slice.injEq, true_and] at he4; obtain ⟨rfl, rfl⟩ := he4; have k0 := (hrow4.cells 0 (by decide)).1; have k1 := (hrow4.cells 0 (by decide)).2; have HF4 := Lib.hid (HF3.out.trans f4 (by simp)); clear h4 f4 hrow4)
    | go_in)
  go_ret
  exact ⟨rfl, HF4.out⟩
end Go.Proofs.YtgpfkaiinbncnaaDoor
