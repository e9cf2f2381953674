/- LeastTells: the walk. -/
import Derived.Test.YthopnlnknicgbaaDoorIdle
import Derived.Test.YthopnlnknicgbaaDoorPooled
import Derived.Test.YthopnlnknicgbaaDoorInts
import Derived.Test.YthopnlnknicgbaaDoorDoor
namespace Go.Proofs.YthopnlnknicgbaaDoor
open Go.RowKit

theorem eqUpTo_same (f : Nat → Int) (n : Nat) : (decide (n = n) && eqUpTo f f n) = true := by simp [(eqUpTo_iff _ _ _).2]

set_option maxRecDepth 100000 in
set_option maxHeartbeats 4000000 in
theorem leastTells_any (w : World) (hg : Hand w) (n : Int) (a : Option Addr) (m c : Nat) (q : Nat → Int) (hv : RdF w (.slice a m c) m (fun j => .int .i64 (q j))) :
    Calls Tryd.prog 3 #[.int .i64 n, .slice a m c] w fun e w' => e = .returned (.bool true) ∧ Fr [] w w' := by
  have HV := Lib.hid hv; clear hv
  have HG := Lib.hid hg; clear hg
  go_enter Tryd.func3, Tryd.ntmps3
  go_wp2_with fail
  refine (pooled_any _).mono ?_
  rintro e w0 ⟨rfl, hf0⟩
  have HF0 := Lib.hid hf0; clear hf0
  by_cases hok : LOk n
  · have HOK := Lib.hid hok
    unfold LOk at hok
    obtain ⟨N, rfl⟩ : ∃ N : Nat, n = (N : Int) := ⟨n.toNat, by omega⟩
    have hN : 1 ≤ N ∧ N ≤ 40 := by omega
    clear hok
    go_wp2_with fail
    refine (least_new _ N).mono ?_
    rintro e w1 ⟨hf1, ⟨_, p, g, rfl, hp, hg, hP⟩ | ⟨hno, _⟩⟩
    · have HF1 := Lib.hid (HF0.out.trans hf1 (S := []) (by simp)); clear hf1
      have hs0 := HF0.out.size
      simp only [Int.toNat_natCast] at hP
      have hpw : w.heap.size ≤ p ∧ w.heap.size ≤ g := by omega
      clear hp hg hs0
      have HP := Lib.hid hP; clear hP
      go_wp2_with fail
      refine (error_any _ none 0 (HG.out.fr HF1.out (by simp))).mono ?_
      rintro e w2 ⟨rfl, hf2⟩
      rw [show decide (numOf none = 0) = true from rfl]
      have HP2 := Lib.hid (HP.out.kept hf2 (by simp))
      have HF2 := Lib.hid (HF1.out.trans hf2 (by simp)); clear hf2
      by_cases hm : 60 < m
      · go_wp2
        go_ret
        exact ⟨rfl, HF2.out⟩
      have d1 : decide (60 < (m : Int)) = false := by simp; omega
      have d2 : decide (60 < m) = false := by simp; omega
      have hmk := run_mk (P := Tryd.prog) 22 3 infoInt Tryd.underlying22 N (by omega) (by unfold maxLen; omega)
      have hsz := HF2.out.size
      have hpl := lt_of_blk HP2.out.blk
      have hgl := HP2.out.row.lt
      go_wp2
      clear d1 d2 hmk
      have hr0 := row_mk w2 3 (.int .i64 0) rfl N (by unfold maxLen; omega)
      have HR0 := Lib.hid hr0; clear hr0
      have HP3 := Lib.hid (HP2.out.kept ((Fr.refl [] w2).alloc (.cells (madeCells (Value.int .i64 0).cells N) 3)) (by simp))
      have HF3 := Lib.hid (HF2.out.alloc (.cells (madeCells (Value.int .i64 0).cells N) 3))
      generalize hgw : w2.heap.size = gw at *
      have hgp : gw ≠ p ∧ gw ≠ g := by omega
      have hgW : w.heap.size ≤ gw := hsz
      clear hpl hgl hsz hgw
      go_loopw [11] (fun i wr => ∃ (k : Nat) (f : Nat → Int), k ≤ m ∧ i = .int .i64 k ∧ Hid (∀ j, j < N → 0 ≤ f j ∧ f j ≤ k) ∧ RowI wr gw N N f ∧ Pool wr p g N N f ∧ Fr [] w wr) (fun i _ => m - (intOf i).toNat)
      case atStart => exact ⟨0, fun _ => 0, by omega, rfl, Lib.hid (fun j _ => by simp), HR0.out, HP3.out, HF3.out⟩
      case round =>
        clear HP HP2 HP3 HR0 HF3
        obtain ⟨k, f, hk, rfl, HB, hr, hP, hf⟩ := hrel
        have HR := Lib.hid hr; clear hr
        have HPk := Lib.hid hP; clear hP
        have HF := Lib.hid hf; clear hf
        by_cases hlt : k < m
        · obtain ⟨b1, o1, c1, he1, _, _, _, hc1⟩ := HV.out.shape (by omega)
          simp only [Value.slice.injEq, true_and] at he1
          obtain ⟨rfl, rfl⟩ := he1
          have K1 := Lib.hid (hc1 k hlt)
          have k1 := HF.out.cell K1.out (by simp)
          clear hc1
          obtain ⟨z, hz⟩ : ∃ z, z = q k := ⟨_, rfl⟩
          rw [← hz] at k1
          clear hz K1
          have k0 : (0 : Int) ≤ (k : Int) := by omega
          have k3 : (k : Int) < (m : Int) := by omega
          go_upto_if 65 with fail
          go_cut [] (fun wy => ∃ f', Hid (∀ j, j < N → 0 ≤ f' j ∧ f' j ≤ ((k + 1 : Nat) : Int)) ∧ RowI wy gw N N f' ∧ Pool wy p g N N f' ∧ Fr [] w wy)
          case first =>
            by_cases hneg : z < 0
            · go_wp2_with fail
              refine (idle_any _ _ N N f HR.out.rd (by omega) (by omega)).mono ?_
              rintro e w3 ⟨rfl, hf3⟩
              have hl := (lst_spec f N (by omega)).1
              have bd := HB.out _ hl
              have hr3 := HR.out.kept hf3 (by simp)
              have x1 := hr3.cell _ hl
              have z1 := hr3.frozen (lst f N)
              have HR3 := Lib.hid hr3
              have HP3 := Lib.hid (HPk.out.kept hf3 (by simp))
              have HF3 := Lib.hid (HF.out.trans hf3 (by simp))
              have HST := Lib.hid (fun wx h => least_start wx p g N N f h (by omega) (by omega) (fun j hj => by have := HB.out j hj; omega))
              clear hr3 hf3
              generalize lst f N = b at *
              have b0 : (0 : Int) ≤ (b : Int) := by omega
              have b3 : (b : Int) < (N : Int) := by omega
              go_wp2_with fail
              have hst := HR3.out.stored b (.int .i64 (f b + 1))
              have hf4 : Fr [gw] w3 (w3.setCell ⟨gw, b, none⟩ (.int .i64 (f b + 1))) := (Fr.refl [gw] w3).setCell (by simp) _
              have HP4 := Lib.hid (HP3.out.kept hf4 (by simp; omega))
              have HF4 := Lib.hid (HF3.out.trans hf4 (fun y hy => .inr (by simp at hy; omega)))
              have HR4 := Lib.hid (show RowI _ gw N N (fun j => if j = b then f b + 1 else f j) from hst.congr (fun j hj => by
                by_cases h4 : j = b
                · simp only [if_pos h4]
                · simp only [if_neg h4]))
              clear hst hf4 x1 z1
              generalize w3.setCell ⟨gw, b, none⟩ (.int .i64 (f b + 1)) = w4 at *
              refine (HST.out _ HP4.out).mono ?_
              rintro e w5 ⟨rfl, hP5, hf5⟩
              have HP5 := Lib.hid hP5
              have HR5 := Lib.hid (HR4.out.kept hf5 (by simp; omega))
              have HF5 := Lib.hid (HF4.out.trans hf5 (fun y hy => .inr (by simp at hy; omega)))
              clear hP5 hf5
              have hbb : ((b : Int) == (b : Int)) = true := by simp
              go_wp2_with fail
              go_meet
              refine ⟨_, Lib.hid (fun j hj => ?_), HR5.out, HP5.out, HF5.out⟩
              have := HB.out j hj
              split <;> omega
            · obtain ⟨t, rfl⟩ : ∃ t : Nat, z = (t : Int) := ⟨z.toNat, by omega⟩
              have HB2 := Lib.hid (show ∀ j, j < N → 0 ≤ f j ∧ f j ≤ ((k + 1 : Nat) : Int) from fun j hj => by have := HB.out j hj; omega)
              by_cases htN : t < N
              · have x1 := HR.out.cell t htN
                have t0 : (0 : Int) ≤ (t : Int) := by omega
                have t3 : (t : Int) < (N : Int) := by omega
                have bd := HB.out t htN
                by_cases hz : f t = 0
                · rw [hz] at x1
                  have HEN := Lib.hid (fun wx h => least_end_none wx p g N N f t h htN (by omega) hz)
                  clear hz bd
                  go_wp2_with fail
                  refine (HEN.out _ HPk.out).mono ?_
                  rintro e w5 ⟨rfl, rfl⟩
                  go_wp2_with fail
                  refine (error_any _ (some 9) 9 (HG.out.fr HF.out (by simp))).mono ?_
                  rintro e w6 ⟨rfl, hf6⟩
                  rw [show decide (numOf (some 9) = 9) = true from rfl]
                  have HP6 := Lib.hid (HPk.out.kept hf6 (by simp))
                  have HR6 := Lib.hid (HR.out.kept hf6 (by simp))
                  have HF6 := Lib.hid (HF.out.trans hf6 (by simp))
                  clear hf6
                  go_wp2_with fail
                  go_meet
                  exact ⟨_, HB2, HR6.out, HP6.out, HF6.out⟩
                · have z1 := HR.out.frozen t
                  have hne : (f t == 0) = false := by simp; omega
                  have HEN := Lib.hid (fun wx h => least_end wx p g N N f t h htN (by omega) (by omega))
                  go_wp2_with fail
                  have hst := HR.out.stored t (.int .i64 (f t - 1))
                  have hf4 : Fr [gw] wr (wr.setCell ⟨gw, t, none⟩ (.int .i64 (f t - 1))) := (Fr.refl [gw] wr).setCell (by simp) _
                  have HP4 := Lib.hid (HPk.out.kept hf4 (by simp; omega))
                  have HF4 := Lib.hid (HF.out.trans hf4 (fun y hy => .inr (by simp at hy; omega)))
                  have HR4 := Lib.hid (show RowI _ gw N N (fun j => if j = t then f t - 1 else f j) from hst.congr (fun j hj => by
                    by_cases h4 : j = t
                    · simp only [if_pos h4]
                    · simp only [if_neg h4]))
                  clear hst hf4 x1 z1 k1
                  generalize wr.setCell ⟨gw, t, none⟩ (.int .i64 (f t - 1)) = w4 at *
                  refine (HEN.out _ HP4.out).mono ?_
                  rintro e w5 ⟨rfl, hP5, hf5⟩
                  have HP5 := Lib.hid hP5
                  have HR5 := Lib.hid (HR4.out.kept hf5 (by simp; omega))
                  have HF5 := Lib.hid (HF4.out.trans hf5 (fun y hy => .inr (by simp at hy; omega)))
                  clear hP5 hf5
                  go_wp2_with fail
                  refine (error_any _ none 0 (HG.out.fr HF5.out (by simp))).mono ?_
                  rintro e w6 ⟨rfl, hf6⟩
                  rw [show decide (numOf none = 0) = true from rfl]
                  have HP6 := Lib.hid (HP5.out.kept hf6 (by simp))
                  have HR6 := Lib.hid (HR5.out.kept hf6 (by simp))
                  have HF6 := Lib.hid (HF5.out.trans hf6 (by simp))
                  clear hf6
                  go_wp2_with fail
                  go_meet
                  refine ⟨_, Lib.hid (fun j hj => ?_), HR6.out, HP6.out, HF6.out⟩
                  have := HB.out j hj
                  split <;> omega
              · have HEN := Lib.hid (fun wx h => least_end_range wx p g N N f t h (by omega) (by omega))
                go_wp2_with fail
                refine (HEN.out _ HPk.out).mono ?_
                rintro e w5 ⟨rfl, rfl⟩
                go_wp2_with fail
                refine (error_any _ (some 6) 6 (HG.out.fr HF.out (by simp))).mono ?_
                rintro e w6 ⟨rfl, hf6⟩
                rw [show decide (numOf (some 6) = 6) = true from rfl]
                have HP6 := Lib.hid (HPk.out.kept hf6 (by simp))
                have HR6 := Lib.hid (HR.out.kept hf6 (by simp))
                have HF6 := Lib.hid (HF.out.trans hf6 (by simp))
                clear hf6
                go_wp2_with fail
                go_meet
                exact ⟨_, HB2, HR6.out, HP6.out, HF6.out⟩
          case rest =>
            obtain ⟨f', HB', hr', hP', hf'⟩ := hcut
            have HR' := Lib.hid hr'; clear hr'
            have HP' := Lib.hid hP'; clear hP'
            have HF' := Lib.hid hf'; clear hf'
            clear k1
            go_wp2_with fail
            refine (least_load _ p g N N f' HP'.out (by omega) (by omega)).mono ?_
            rintro e w5 ⟨g5, c5, rfl, hg5, hr5, hf5⟩
            have HP5 := Lib.hid (HP'.out.kept hf5 (by simp))
            have HR5 := Lib.hid (HR'.out.kept hf5 (by simp))
            have HF5 := Lib.hid (HF'.out.trans hf5 (by simp))
            have HL5 := Lib.hid hr5
            clear hf5 hr5
            go_wp2_with fail
            refine (ints_any _ _ _ N N _ _ f' f' HL5.out.rd HR5.out.rd (by omega) (by omega)).mono ?_
            rintro e w6 ⟨rfl, q6, hw6⟩
            have hf6 : Fr [] w5 w6 := by rw [hw6]; exact (Fr.refl [] _).drewN q6
            clear hw6
            rw [eqUpTo_same]
            have HP6 := Lib.hid (HP5.out.kept hf6 (by simp))
            have HR6 := Lib.hid (HR5.out.kept hf6 (by simp))
            have HF6 := Lib.hid (HF5.out.trans hf6 (by simp))
            clear hf6
            go_wp2
            go_roundw
            case rel => exact ⟨k + 1, f', by omega, by go_num, HB', HR6.out, HP6.out, HF6.out⟩
            case measure => simp [intOf]; omega
        · obtain rfl : k = m := by omega
          go_wp2
          go_ret
          exact ⟨rfl, HF.out⟩
    · exact absurd HOK.out hno
  · have HOK := Lib.hid hok
    unfold LOk at hok
    have hc : n < 1 ∨ (1 ≤ n ∧ 40 < n) := by omega
    clear hok
    rcases hc with h1 | ⟨h1, h2⟩
    all_goals
      go_wp2_with fail
      refine (least_new _ n).mono ?_
      rintro e w1 ⟨hf1, ⟨hyes, _⟩ | ⟨_, rfl⟩⟩
      · exact absurd hyes HOK.out
      · have HF1 := Lib.hid (HF0.out.trans hf1 (S := []) (by simp)); clear hf1
        go_wp2_with fail
        refine (error_any _ (some 6) 6 (HG.out.fr HF1.out (by simp))).mono ?_
        rintro e w2 ⟨rfl, hf2⟩
        rw [show decide (numOf (some 6) = 6) = true from rfl]
        have HF2 := Lib.hid (HF1.out.trans hf2 (by simp)); clear hf2
        go_wp2
        go_ret
        exact ⟨rfl, HF2.out⟩

end Go.Proofs.YthopnlnknicgbaaDoor
