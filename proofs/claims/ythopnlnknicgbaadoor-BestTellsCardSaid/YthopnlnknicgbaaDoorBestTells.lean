/- BestTells: the walk. -/
import Derived.Test.YthopnlnknicgbaaDoorBestPlan
import Derived.Test.YthopnlnknicgbaaDoorPlannedRef
import Derived.Test.YthopnlnknicgbaaDoorRoomFault
import Derived.Test.YthopnlnknicgbaaDoorInts
import Derived.Test.YthopnlnknicgbaaDoorDoor
namespace Go.Proofs.YthopnlnknicgbaaDoor
open Go.RowKit

theorem eqUpTo_same (f : Nat → Int) (n : Nat) : (decide (n = n) && eqUpTo f f n) = true := by simp [(eqUpTo_iff _ _ _).2]

theorem nil_rd (w : World) : RdF w (.slice none 0 0) 0 (fun j => .int .i64 ((fun _ => 0 : Nat → Int) j)) := .inl ⟨rfl, rfl⟩

set_option maxRecDepth 100000 in
set_option maxHeartbeats 4000000 in
theorem bestTells_any (w : World) (hg : Hand w) (a : Option Addr) (m c : Nat) (kf : Nat → Int) (hv : RdF w (.slice a m c) m (fun j => .int .i64 (kf j))) (n : Int) :
    Calls Tryd.prog 8 #[.slice a m c, .int .i64 n] w fun e w' => e = .returned (.bool true) ∧ Fr [] w w' := by
  have HV := Lib.hid hv; clear hv
  have HG := Lib.hid hg; clear hg
  go_enter Tryd.func8, Tryd.ntmps8
  go_wp2_with fail
  refine (planned_any _).mono ?_
  rintro e w0 ⟨rfl, hf0⟩
  have HF0 := Lib.hid hf0; clear hf0
  by_cases hmid : 100 < m ∧ m ≤ 500
  · obtain ⟨h1, h2⟩ := hmid
    go_wp2
    go_ret
    exact ⟨rfl, HF0.out⟩
  have hmm : m ≤ 100 ∨ 500 < m := by omega
  clear hmid
  by_cases hok : LruOk n
  · have HOK := Lib.hid hok
    have HBO := Lib.hid (show BOk n from hok)
    rcases hmm with hm | hm
    · unfold LruOk at hok
      obtain ⟨N, rfl⟩ : ∃ N : Nat, n = (N : Int) := ⟨n.toNat, by omega⟩
      have hN : 1 ≤ N ∧ N ≤ 64 := by omega
      clear hok
      go_wp2_with fail
      refine (roomFault_any _ a m c N).mono ?_
      rintro e w0' ⟨rfl, rfl⟩
      rw [rft_ok HOK.out (by omega)]
      go_wp2_with fail
      refine (plannedR_any _ a m c kf N (HV.out.fr HF0.out (by simp)) (by omega) (by omega)).mono ?_
      rintro e w1 ⟨u1, rfl, ho1, hf1⟩
      have HF1 := Lib.hid (HF0.out.trans hf1 (by simp))
      obtain ⟨a1, c1, e1⟩ := ho1.rd.slice
      subst e1
      have HR1 := Lib.hid ho1.rd
      clear hf1 ho1
      go_wp2_with fail
      refine (best_misses _ a m c kf (HV.out.fr HF1.out (by simp)) N hN (by omega)).mono ?_
      rintro e w2 ⟨rfl, hf2⟩
      have HF2 := Lib.hid (HF1.out.trans hf2 (by simp))
      have HR2 := Lib.hid (HR1.out.fr hf2 (by simp))
      clear hf2
      go_wp2_with fail
      refine (error_any _ none 0 (HG.out.fr HF2.out (by simp))).mono ?_
      rintro e w3 ⟨rfl, hf3⟩
      rw [show decide (numOf none = 0) = true from rfl]
      have HF3 := Lib.hid (HF2.out.trans hf3 (by simp))
      have HR3 := Lib.hid (HR2.out.fr hf3 (by simp))
      clear hf3
      go_wp2_with fail
      refine (plan_ok _ a m c kf (HV.out.fr HF3.out (by simp)) N hN (by omega)).mono ?_
      rintro e w4 ⟨u4, rfl, ho4, hf4⟩
      have HF4 := Lib.hid (HF3.out.trans hf4 (by simp))
      have HR4 := Lib.hid (HR3.out.fr hf4 (by simp))
      obtain ⟨a4, c4, e4⟩ := ho4.rd.slice
      subst e4
      have HO4 := Lib.hid ho4.rd
      clear hf4 ho4
      go_wp2_with fail
      refine (error_any _ none 0 (HG.out.fr HF4.out (by simp))).mono ?_
      rintro e w5 ⟨rfl, hf5⟩
      rw [show decide (numOf none = 0) = true from rfl]
      have HF5 := Lib.hid (HF4.out.trans hf5 (by simp))
      have HR5 := Lib.hid (HR4.out.fr hf5 (by simp))
      have HO5 := Lib.hid (HO4.out.fr hf5 (by simp))
      have hgl := pgo_len kf m N m
      clear hf5
      go_wp2_with fail
      refine (ints_any _ _ _ (pgo kf m N m).length (pgo kf m N m).length _ _ (lg (pgo kf m N m)) (lg (pgo kf m N m)) HO5.out HR5.out (by omega) (by omega)).mono ?_
      rintro e w6 ⟨rfl, q6, rfl⟩
      rw [eqUpTo_same]
      have hpp : ((pmi kf m N m : Int) == (pmi kf m N m : Int)) = true := by simp
      go_wp2
      go_ret
      exact ⟨rfl, HF5.out.drewN q6⟩
    · have hok2 := hok
      unfold LruOk at hok2
      clear hok2
      go_wp2_with fail
      refine (roomFault_any _ a m c n).mono ?_
      rintro e w0' ⟨rfl, rfl⟩
      rw [rft_full HOK.out hm]
      go_wp2_with fail
      refine (best_full _ a m c n HBO.out hm).mono ?_
      rintro e w2 ⟨rfl, hf2⟩
      have HF2 := Lib.hid (HF0.out.trans hf2 (by simp)); clear hf2
      go_wp2_with fail
      refine (error_any _ (some 7) 7 (HG.out.fr HF2.out (by simp))).mono ?_
      rintro e w3 ⟨rfl, hf3⟩
      rw [show decide (numOf (some 7) = 7) = true from rfl]
      have HF3 := Lib.hid (HF2.out.trans hf3 (by simp)); clear hf3
      go_wp2_with fail
      refine (plan_full _ a m c n HBO.out hm).mono ?_
      rintro e w4 ⟨rfl, hf4⟩
      have HF4 := Lib.hid (HF3.out.trans hf4 (by simp)); clear hf4
      go_wp2_with fail
      refine (error_any _ (some 7) 7 (HG.out.fr HF4.out (by simp))).mono ?_
      rintro e w5 ⟨rfl, hf5⟩
      rw [show decide (numOf (some 7) = 7) = true from rfl]
      have HF5 := Lib.hid (HF4.out.trans hf5 (by simp)); clear hf5
      go_wp2_with fail
      refine (ints_any _ _ _ 0 0 _ _ (fun _ => 0) (fun _ => 0) (nil_rd _) (nil_rd _) (by omega) (by omega)).mono ?_
      rintro e w6 ⟨rfl, q6, rfl⟩
      rw [eqUpTo_same]
      go_wp2
      go_ret
      exact ⟨rfl, HF5.out.drewN q6⟩
  · have HNO := Lib.hid hok
    have HBN := Lib.hid (show ¬ BOk n from hok)
    clear hok
    rcases hmm with hm | hm
    all_goals
      go_wp2_with fail
      refine (roomFault_any _ a m c n).mono ?_
      rintro e w0' ⟨rfl, rfl⟩
      rw [rft_bad HNO.out]
      go_wp2_with fail
      refine (best_bad _ a m c n HBN.out).mono ?_
      rintro e w2 ⟨rfl, hf2⟩
      have HF2 := Lib.hid (HF0.out.trans hf2 (by simp)); clear hf2
      go_wp2_with fail
      refine (error_any _ (some 6) 6 (HG.out.fr HF2.out (by simp))).mono ?_
      rintro e w3 ⟨rfl, hf3⟩
      rw [show decide (numOf (some 6) = 6) = true from rfl]
      have HF3 := Lib.hid (HF2.out.trans hf3 (by simp)); clear hf3
      go_wp2_with fail
      refine (plan_bad _ a m c n HBN.out).mono ?_
      rintro e w4 ⟨rfl, hf4⟩
      have HF4 := Lib.hid (HF3.out.trans hf4 (by simp)); clear hf4
      go_wp2_with fail
      refine (error_any _ (some 6) 6 (HG.out.fr HF4.out (by simp))).mono ?_
      rintro e w5 ⟨rfl, hf5⟩
      rw [show decide (numOf (some 6) = 6) = true from rfl]
      have HF5 := Lib.hid (HF4.out.trans hf5 (by simp)); clear hf5
      go_wp2_with fail
      refine (ints_any _ _ _ 0 0 _ _ (fun _ => 0) (fun _ => 0) (nil_rd _) (nil_rd _) (by omega) (by omega)).mono ?_
      rintro e w6 ⟨rfl, q6, rfl⟩
      rw [eqUpTo_same]
      go_wp2
      go_ret
      exact ⟨rfl, HF5.out.drewN q6⟩

end Go.Proofs.YthopnlnknicgbaaDoor
