/- ChainTells, walked. -/
import Derived.Test.YtgpfkaiinbncnaaDoorChainRef
import Derived.Test.YtgpfkaiinbncnaaDoorDoor
namespace Go.Proofs.YtgpfkaiinbncnaaDoor
open Go.RowKit

theorem err_nil (w : World) (hg : Hand w) : Calls Tryd.prog 9 #[.nilIface, .int .i64 0] w fun e w' => e = .returned (.bool true) ∧ Fr [] w w' := error_any w none 0 hg
theorem err_one (w : World) (z : Int) (hg : Hand w) : Calls Tryd.prog 9 #[.iface 27 (.int .i64 z), .int .i64 z] w fun e w' => e = .returned (.bool true) ∧ Fr [] w w' := by
  refine (error_any w (some z) z hg).mono ?_
  rintro e w' ⟨rfl, h⟩
  exact ⟨by simp [numOf], h⟩

set_option maxHeartbeats 8000000 in
set_option maxRecDepth 100000 in
theorem chainTells_any (W : World) (hg : Hand W) (a : Option Addr) (n c : Nat) (R : Nat → Rl) (h : Rls W a n c R) (q : Qt) (hq : q.Ok W) (other : Int) :
    Calls Tryd.prog 6 #[.slice a n c, q.agg, .int .i64 other] W fun e w' => e = .returned (.bool true) ∧ Fr [] W w' := by
  have HG := Lib.hid (fun w (hf : Fr [] W w) => hg.fr hf (by simp)); clear hg
  have H0 := Lib.hid h; clear h
  have HQ := Lib.hid hq; clear hq
  have HCF := Lib.hid (fun w (hf : Fr [] W w) => chainFault_any w a n c R (H0.out.fr hf))
  have HCK := Lib.hid (fun w (hf : Fr [] W w) => chainCheck_any w a n c R (H0.out.fr hf))
  have HFI := Lib.hid (fun w (hf : Fr [] W w) => first_all H0.out HQ.out w hf)
  have HDO := Lib.hid (fun w (hf : Fr [] W w) => do_all H0.out HQ.out other w hf)
  have HB := Lib.hid (Fr.refl [] (qW W q))
  have HQF := Lib.hid (fun w (hf : Fr [] (qW W q) w) => show Fr [] W w from ((Fr.refl [] W).alloc _).trans hf (by simp))
  unfold Qt.agg
  by_cases hz : chZ R n = 0
  case neg =>
    have hI : fiI R q n = 0 := by unfold fiI; rw [if_neg hz]
    have hD : doI R q n other = 0 := by unfold doI; rw [if_neg hz]
    have hzb : (chZ R n == 0) = false := by simpa using hz
    rw [hI, erV1 hz] at HFI
    rw [hD, erV1 hz] at HDO
    rw [erV1 hz] at HCK
    clear hI hD hz
    generalize chZ R n = z at *
    generalize chI R n = I at *
    go_enter Tryd.func6, Tryd.ntmps6
    go_wp2_with fail
    refine (chained_any _).mono ?_
    rintro e w1 ⟨rfl, hf1⟩
    have HF1 := Lib.hid (HB.out.trans hf1 (by simp)); clear hf1
    go_wp2_with fail
    refine (HCF.out _ (HQF.out _ HF1.out)).mono ?_
    rintro e w2 ⟨rfl, hf2⟩
    have HF2 := Lib.hid (HF1.out.trans hf2 (by simp)); clear hf2
    go_wp2_with fail
    refine (HCK.out _ (HQF.out _ HF2.out)).mono ?_
    rintro e w3 ⟨rfl, hf3⟩
    have HF3 := Lib.hid (HF2.out.trans hf3 (by simp)); clear hf3
    go_wp2_with fail
    refine (err_one _ z (HG.out _ (HQF.out _ HF3.out))).mono ?_
    rintro e w4 ⟨rfl, hf4⟩
    have HF4 := Lib.hid (HF3.out.trans hf4 (by simp)); clear hf4
    obtain ⟨x0, x1, x2, x3, x4, x5⟩ := qbox q HF4.out
    go_wp2_with fail
    refine (HFI.out _ (HQF.out _ HF4.out)).mono ?_
    rintro e w5 ⟨rfl, hf5⟩
    have HF5 := Lib.hid (HF4.out.trans hf5 (by simp)); clear hf5 x0 x1 x2 x3 x4 x5
    go_wp2_with fail
    refine (err_one _ z (HG.out _ (HQF.out _ HF5.out))).mono ?_
    rintro e w6 ⟨rfl, hf6⟩
    have HF6 := Lib.hid (HF5.out.trans hf6 (by simp)); clear hf6
    obtain ⟨x0, x1, x2, x3, x4, x5⟩ := qbox q HF6.out
    go_wp2_with fail
    refine (HDO.out _ (HQF.out _ HF6.out)).mono ?_
    rintro e w7 ⟨rfl, hf7⟩
    have HF7 := Lib.hid (HF6.out.trans hf7 (by simp)); clear hf7 x0 x1 x2 x3 x4 x5
    go_wp2_with fail
    refine (err_one _ z (HG.out _ (HQF.out _ HF7.out))).mono ?_
    rintro e w8 ⟨rfl, hf8⟩
    have HF8 := Lib.hid (HF7.out.trans hf8 (by simp)); clear hf8
    go_wp2
    go_ret
    exact ⟨rfl, HQF.out _ HF8.out⟩
  case pos =>
    have HZ := Lib.hid hz
    have hD : doI R q n other = if ffst (hd R q) n < n then (R (ffst (hd R q) n)).act else other := by unfold doI; rw [if_pos hz]
    have hI : fiI R q n = if ffst (hd R q) n < n then (ffst (hd R q) n : Int) else -1 := by unfold fiI; rw [if_pos hz]
    have HFO := Lib.hid (fun w (hf : Fr [] W w) => firstOf_any w a n c R q (H0.out.fr hf) (HQ.out.fr hf) HZ.out)
    rw [erV0 hz, hI] at HFI
    rw [erV0 hz, hD] at HDO
    rw [erV0 hz] at HCK
    rw [hz] at HCF
    rw [hI] at HFO
    clear hI hD hz
    generalize chI R n = I at *
    generalize ffst (hd R q) n = f at *
    have run := True.intro
    by_cases hlt : f < n
    · rw [if_pos hlt] at HFI HDO HFO
      have HCL := Lib.hid (fun w (hf : Fr [] W w) => (H0.out.fr hf).rd.shape (by omega) (by decide))
      obtain ⟨bb, oo, cc, he, _, _, _, _⟩ := H0.out.rd.shape (by omega) (by decide)
      simp only [Value.slice.injEq, true_and] at he
      obtain ⟨rfl, rfl⟩ := he
      have k0 : (0 : Int) ≤ (f : Int) := by omega
      have k1 : (f : Int) < (n : Int) := by omega
      go_enter Tryd.func6, Tryd.ntmps6
      go_wp2_with fail
      refine (chained_any _).mono ?_
      rintro e w1 ⟨rfl, hf1⟩
      have HF1 := Lib.hid (HB.out.trans hf1 (by simp)); clear hf1
      go_wp2_with fail
      refine (HCF.out _ (HQF.out _ HF1.out)).mono ?_
      rintro e w2 ⟨rfl, hf2⟩
      have HF2 := Lib.hid (HF1.out.trans hf2 (by simp)); clear hf2
      go_wp2_with fail
      refine (HCK.out _ (HQF.out _ HF2.out)).mono ?_
      rintro e w3 ⟨rfl, hf3⟩
      have HF3 := Lib.hid (HF2.out.trans hf3 (by simp)); clear hf3
      go_wp2_with fail
      refine (err_nil _ (HG.out _ (HQF.out _ HF3.out))).mono ?_
      rintro e w4 ⟨rfl, hf4⟩
      have HF4 := Lib.hid (HF3.out.trans hf4 (by simp)); clear hf4
      obtain ⟨x0, x1, x2, x3, x4, x5⟩ := qbox q HF4.out
      go_wp2_with fail
      refine (HFO.out _ (HQF.out _ HF4.out)).mono ?_
      rintro e w9 ⟨rfl, hf9⟩
      have HF9 := Lib.hid (HF4.out.trans hf9 (by simp)); clear hf9 x0 x1 x2 x3 x4 x5
      obtain ⟨x0, x1, x2, x3, x4, x5⟩ := qbox q HF9.out
      obtain ⟨b2, o2, c2, he, _, _, _, hc2⟩ := HCL.out _ (HQF.out _ HF9.out)
      simp only [Value.slice.injEq, Option.some.injEq, Addr.mk.injEq, and_true, true_and] at he
      obtain ⟨⟨rfl, rfl⟩, rfl⟩ := he
      have y1 : w9.cell? ⟨bb, oo + f * 2 + 1, none⟩ = some (.int .i64 (R f).act) := hc2 f 1 hlt (by decide)
      clear hc2
      go_wp2_with fail
      refine (HFI.out _ (HQF.out _ HF9.out)).mono ?_
      rintro e w5 ⟨rfl, hf5⟩
      have HF5 := Lib.hid (HF9.out.trans hf5 (by simp)); clear hf5 x0 x1 x2 x3 x4 x5 y1
      go_wp2_with fail
      refine (err_nil _ (HG.out _ (HQF.out _ HF5.out))).mono ?_
      rintro e w6 ⟨rfl, hf6⟩
      have HF6 := Lib.hid (HF5.out.trans hf6 (by simp)); clear hf6
      obtain ⟨x0, x1, x2, x3, x4, x5⟩ := qbox q HF6.out
      go_wp2_with fail
      refine (HDO.out _ (HQF.out _ HF6.out)).mono ?_
      rintro e w7 ⟨rfl, hf7⟩
      have HF7 := Lib.hid (HF6.out.trans hf7 (by simp)); clear hf7 x0 x1 x2 x3 x4 x5
      go_wp2_with fail
      refine (err_nil _ (HG.out _ (HQF.out _ HF7.out))).mono ?_
      rintro e w8 ⟨rfl, hf8⟩
      have HF8 := Lib.hid (HF7.out.trans hf8 (by simp)); clear hf8
      go_wp2
      go_ret
      exact ⟨rfl, HQF.out _ HF8.out⟩
    · rw [if_neg hlt] at HFI HDO HFO
      go_enter Tryd.func6, Tryd.ntmps6
      go_wp2_with fail
      refine (chained_any _).mono ?_
      rintro e w1 ⟨rfl, hf1⟩
      have HF1 := Lib.hid (HB.out.trans hf1 (by simp)); clear hf1
      go_wp2_with fail
      refine (HCF.out _ (HQF.out _ HF1.out)).mono ?_
      rintro e w2 ⟨rfl, hf2⟩
      have HF2 := Lib.hid (HF1.out.trans hf2 (by simp)); clear hf2
      go_wp2_with fail
      refine (HCK.out _ (HQF.out _ HF2.out)).mono ?_
      rintro e w3 ⟨rfl, hf3⟩
      have HF3 := Lib.hid (HF2.out.trans hf3 (by simp)); clear hf3
      go_wp2_with fail
      refine (err_nil _ (HG.out _ (HQF.out _ HF3.out))).mono ?_
      rintro e w4 ⟨rfl, hf4⟩
      have HF4 := Lib.hid (HF3.out.trans hf4 (by simp)); clear hf4
      obtain ⟨x0, x1, x2, x3, x4, x5⟩ := qbox q HF4.out
      go_wp2_with fail
      refine (HFO.out _ (HQF.out _ HF4.out)).mono ?_
      rintro e w9 ⟨rfl, hf9⟩
      have HF9 := Lib.hid (HF4.out.trans hf9 (by simp)); clear hf9 x0 x1 x2 x3 x4 x5
      obtain ⟨x0, x1, x2, x3, x4, x5⟩ := qbox q HF9.out
      go_wp2_with fail
      refine (HFI.out _ (HQF.out _ HF9.out)).mono ?_
      rintro e w5 ⟨rfl, hf5⟩
      have HF5 := Lib.hid (HF9.out.trans hf5 (by simp)); clear hf5 x0 x1 x2 x3 x4 x5
      go_wp2_with fail
      refine (err_nil _ (HG.out _ (HQF.out _ HF5.out))).mono ?_
      rintro e w6 ⟨rfl, hf6⟩
      have HF6 := Lib.hid (HF5.out.trans hf6 (by simp)); clear hf6
      obtain ⟨x0, x1, x2, x3, x4, x5⟩ := qbox q HF6.out
      go_wp2_with fail
      refine (HDO.out _ (HQF.out _ HF6.out)).mono ?_
      rintro e w7 ⟨rfl, hf7⟩
      have HF7 := Lib.hid (HF6.out.trans hf7 (by simp)); clear hf7 x0 x1 x2 x3 x4 x5
      go_wp2_with fail
      refine (err_nil _ (HG.out _ (HQF.out _ HF7.out))).mono ?_
      rintro e w8 ⟨rfl, hf8⟩
      have HF8 := Lib.hid (HF7.out.trans hf8 (by simp)); clear hf8
      go_wp2
      go_ret
      exact ⟨rfl, HQF.out _ HF8.out⟩

end Go.Proofs.YtgpfkaiinbncnaaDoor
