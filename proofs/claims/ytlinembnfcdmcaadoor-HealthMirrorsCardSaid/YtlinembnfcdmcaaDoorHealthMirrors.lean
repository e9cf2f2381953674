/- HealthMirrors: the walk. -/
import Derived.Test.YtlinembnfcdmcaaDoorHealth
import Derived.Test.YtlinembnfcdmcaaDoorDoor
namespace Go.Proofs.YtlinembnfcdmcaaDoor
open Go.RowKit

theorem tn_not (up : Bool) (rise fall : Int) : tn (!up) fall rise = tn up rise fall := by cases up <;> rfl

theorem stp_not (s : Bool × Int) (ok : Bool) (rise fall : Int) : stp (!s.1, s.2) (!ok) fall rise = (!(stp s ok rise fall).1, (stp s ok rise fall).2) := by
  unfold stp
  simp only [tn_not]
  by_cases h : ok = s.1
  · simp [h]
  · have : ¬ ((!ok) = !s.1) := by simpa using h
    rw [if_neg this, if_neg h]
    split <;> simp

theorem stps_not (s : Bool × Int) (ok : Nat → Bool) (rise fall : Int) (k : Nat) : stps (!s.1, s.2) (fun j => !ok j) fall rise k = (!(stps s ok rise fall k).1, (stps s ok rise fall k).2) := by
  induction k with
  | zero => rfl
  | succ k ih => simp only [stps]; rw [ih, stp_not]

theorem hok_not (up : Bool) (run rise fall : Int) : HOk (!up) run fall rise ↔ HOk up run rise fall := by
  unfold HOk
  rw [tn_not]
  omega

set_option maxRecDepth 100000 in
set_option maxHeartbeats 2000000 in
theorem healthMirrors_any (w : World) (hg : Hand w) (up : Bool) (run rise fall : Int) (a : Option Addr) (n c : Nat) (ok : Nat → Bool) (hv : RdF w (.slice a n c) n (fun j => .bool (ok j))) (hn : n ≤ 140737488351232) :
    Calls Tryd.prog 6 #[.agg #[.bool up, .int .i64 run], .slice a n c, .int .i64 rise, .int .i64 fall] w fun e w' => e = .returned (.bool true) ∧ Fr [] w w' := by
  have HV := Lib.hid hv; clear hv
  have HG := Lib.hid hg; clear hg
  have hb0 := heap_alloc_new w (.cells #[.bool up, .int .i64 run] 54)
  have B0 := Lib.hid hb0; clear hb0
  go_enter Tryd.func6, Tryd.ntmps6
  go_wp2_with fail
  refine (probed_any _).mono ?_
  rintro e w1 ⟨rfl, hf1⟩
  have B1 := Lib.hid (hf1.blk B0.out (by simp)); clear B0
  have HF1 := Lib.hid (((Fr.refl [] w).alloc _).trans hf1 (by simp)); clear hf1
  go_wp2
  go_loopw [10, 11] (fun v i wr => ∃ k : Nat, k ≤ n ∧ i = .int .i64 k ∧ OwnF wr w1.heap.size 4 v k (fun j => .bool (!ok j)) ∧ Fr [] w1 wr) (fun _ i _ => n - (intOf i).toNat)
  case atStart => exact ⟨0, by omega, rfl, OwnF.nil _ _ _ _, Fr.refl _ _⟩
  case round =>
    obtain ⟨k, hk, rfl, ho, hf⟩ := hrel
    have HO := Lib.hid ho; clear ho
    have HF := Lib.hid hf; clear hf
    have hsz := HF.out.size
    by_cases hlt : k < n
    · obtain ⟨b1, o1, c1, he1, _, _, _, hc1⟩ := HV.out.shape (by omega)
      simp only [Value.slice.injEq, true_and] at he1
      obtain ⟨rfl, rfl⟩ := he1
      have k1 : wr.cell? ⟨b1, o1 + k, none⟩ = some (.bool (ok k)) := HF.out.cell (HF1.out.cell (hc1 k hlt) (by simp)) (by simp)
      clear hc1
      have k0 : (0 : Int) ≤ (k : Int) := by omega
      have k3 : (k : Int) < (n : Int) := by omega
      go_wp2_with (at_builtin; refine wpList_app rfl (.tmp 26) (.tmp 32) 55 rfl 4 infoBool Tryd.underlying55 rfl (HO.out.alloc _) rfl (rd_one _ _ _ (by simp)) rfl (fun _ _ => rfl) (by unfold maxLen; omega) (by omega) (by simp; omega) ?_; intro v4 w4 ho4 hf4 _)
      have HO4 := Lib.hid (ho4.congr (f' := fun j => .bool (!ok j)) (fun j hj => by
        unfold app
        by_cases h4 : j < k
        · rw [if_pos h4]
        · obtain rfl : j = k := by omega
          rw [if_neg h4]))
      have HF4 := Lib.hid (HF.out.app _ hf4 HO.out.ge)
      clear ho4 hf4
      go_wp2
      go_roundw
      case rel => exact ⟨k + 1, by omega, by go_num, HO4.out, HF4.out⟩
      case measure => simp [intOf]; omega
    · obtain rfl : k = n := by omega
      have b0 := HF.out.blk B1.out (by simp)
      have c00 := blk_cell b0 0 rfl
      have c01 := blk_cell b0 1 rfl
      have hlt0 := lt_of_blk b0
      have B2 := Lib.hid b0; clear b0
      have HFW := Lib.hid (HF1.out.trans HF.out (by simp))
      obtain ⟨av, cv, hav⟩ := HO.out.rd.slice
      subst hav
      by_cases hok : HOk up run rise fall
      · have hok' := (hok_not up run rise fall).2 hok
        have HOK := Lib.hid hok; clear hok
        have HOK' := Lib.hid hok'; clear hok'
        have hst : stps (!up, run) (fun j => !ok j) fall rise k = (!(stps (up, run) ok rise fall k).1, (stps (up, run) ok rise fall k).2) := stps_not (up, run) ok rise fall k
        have HST := Lib.hid hst; clear hst
        go_wp2_with fail
        refine (steps_any _ up run rise fall _ k c ok (HV.out.fr HFW.out (by simp)) (by omega) HOK.out).mono ?_
        rintro e w3 ⟨rfl, hf3⟩
        have b3 := hf3.blk B2.out (by simp)
        have d00 := blk_cell b3 0 rfl
        have d01 := blk_cell b3 1 rfl
        have hs3 := hf3.size
        have B3 := Lib.hid b3; clear b3
        have HO3 := Lib.hid (HO.out.kept hf3 (by simp))
        have HF3 := Lib.hid (HFW.out.trans hf3 (by simp)); clear hf3
        clear c00 c01
        have hl3 : w.heap.size < w3.heap.size := by omega
        generalize stps (up, run) ok rise fall k = s at *
        go_wp2_with fail
        have b5 := heap_alloc_new w3 (.cells #[.bool s.1, .int .i64 s.2] 54)
        have HF5 := Lib.hid (HF3.out.alloc (.cells #[.bool s.1, .int .i64 s.2] 54))
        have HO5 := Lib.hid (HO3.out.alloc (.cells #[.bool s.1, .int .i64 s.2] 54))
        have B5 := Lib.hid b5; clear b5
        refine (steps_any _ (!up) run fall rise av k cv (fun j => !ok j) HO5.out.rd (by omega) HOK'.out).mono ?_
        rintro e w6 ⟨rfl, hf6⟩
        rw [HST.out]
        have B6 := Lib.hid (hf6.blk B5.out (by simp))
        have hs6 := hf6.size
        have HF6 := Lib.hid (HF5.out.trans hf6 (by simp)); clear hf6
        have hl6 := lt_of_blk B6.out
        clear d00 d01
        go_wp2_with fail
        have B7 := Lib.hid (heap_alloc_new w6 (.cells #[.bool (!s.1), .int .i64 s.2] 54))
        have HF7 := Lib.hid (HF6.out.alloc (.cells #[.bool (!s.1), .int .i64 s.2] 54))
        have B61 := Lib.hid (((Fr.refl [] w6).alloc (.cells #[.bool (!s.1), .int .i64 s.2] 54)).blk B6.out (by simp))
        refine (same_any _ none none (HG.out.fr HF7.out (by simp))).mono ?_
        rintro e w8 ⟨rfl, hf8⟩
        have e00 := blk_cell (hf8.blk B61.out (by simp)) 0 rfl
        have e01 := blk_cell (hf8.blk B61.out (by simp)) 1 rfl
        have e10 := blk_cell (hf8.blk B7.out (by simp)) 0 rfl
        have e11 := blk_cell (hf8.blk B7.out (by simp)) 1 rfl
        have HF8 := Lib.hid (HF7.out.trans hf8 (by simp)); clear hf8
        go_wp2
        go_ret
        exact ⟨by simp, HF8.out⟩
      · have hok' : ¬ HOk (!up) run fall rise := fun h => hok ((hok_not up run rise fall).1 h)
        have HOK := Lib.hid hok; clear hok
        have HOK' := Lib.hid hok'; clear hok'
        go_wp2_with fail
        refine (steps_bad _ up run rise fall _ k c HOK.out).mono ?_
        rintro e w3 ⟨rfl, hf3⟩
        have b3 := hf3.blk B2.out (by simp)
        have d00 := blk_cell b3 0 rfl
        have d01 := blk_cell b3 1 rfl
        have hs3 := hf3.size
        have B3 := Lib.hid b3; clear b3
        have HO3 := Lib.hid (HO.out.kept hf3 (by simp))
        have HF3 := Lib.hid (HFW.out.trans hf3 (by simp)); clear hf3
        clear c00 c01
        have hl3 : w.heap.size < w3.heap.size := by omega
        go_wp2_with fail
        have b5 := heap_alloc_new w3 (.cells #[.bool false, .int .i64 0] 54)
        have HF5 := Lib.hid (HF3.out.alloc (.cells #[.bool false, .int .i64 0] 54))
        have HO5 := Lib.hid (HO3.out.alloc (.cells #[.bool false, .int .i64 0] 54))
        have B5 := Lib.hid b5; clear b5
        refine (steps_bad _ (!up) run fall rise av k cv HOK'.out).mono ?_
        rintro e w6 ⟨rfl, hf6⟩
        have B6 := Lib.hid (hf6.blk B5.out (by simp))
        have hs6 := hf6.size
        have HF6 := Lib.hid (HF5.out.trans hf6 (by simp)); clear hf6
        have hl6 := lt_of_blk B6.out
        clear d00 d01
        go_wp2_with fail
        have B7 := Lib.hid (heap_alloc_new w6 (.cells #[.bool false, .int .i64 0] 54))
        have HF7 := Lib.hid (HF6.out.alloc (.cells #[.bool false, .int .i64 0] 54))
        have B61 := Lib.hid (((Fr.refl [] w6).alloc (.cells #[.bool false, .int .i64 0] 54)).blk B6.out (by simp))
        refine (same_any _ (some 6) (some 6) (HG.out.fr HF7.out (by simp))).mono ?_
        rintro e w8 ⟨rfl, hf8⟩
        have e00 := blk_cell (hf8.blk B61.out (by simp)) 0 rfl
        have e01 := blk_cell (hf8.blk B61.out (by simp)) 1 rfl
        have e10 := blk_cell (hf8.blk B7.out (by simp)) 0 rfl
        have e11 := blk_cell (hf8.blk B7.out (by simp)) 1 rfl
        have HF8 := Lib.hid (HF7.out.trans hf8 (by simp)); clear hf8
        go_wp2
        go_ret
        exact ⟨by simp, HF8.out⟩

end Go.Proofs.YtlinembnfcdmcaaDoor
