/- TallyTells: the walk. -/
import Derived.Test.YtgpfkaiinbncnaaDoorTallyWith
import Derived.Test.YtgpfkaiinbncnaaDoorAdded
import Derived.Test.YtgpfkaiinbncnaaDoorDoor
namespace Go.Proofs.YtgpfkaiinbncnaaDoor
open Go.RowKit

theorem RdF.le_len {w : World} {a : Option Addr} {n c : Nat} {f : Nat → Value} (h : RdF w (.slice a n c) n f) : n ≤ 9223372036854775807 := by
  rcases h with ⟨h, h0⟩ | ⟨ad, cap, h, h1, h2, _⟩
  · omega
  · unfold maxLen at h2; omega

theorem eqUpTo_self (f : Nat → Int) (n : Nat) : (decide (n = n) && eqUpTo f f n) = true := by simp [(eqUpTo_iff _ _ _).2]

theorem eqUpTo_zero (f g : Nat → Int) : (decide (0 = 0) && eqUpTo f g 0) = true := rfl

theorem RdF.sl {w : World} {v : Value} {n : Nat} {f : Nat → Value} (h : RdF w v n f) : ∃ a c, v = .slice a n c ∧ RdF w (.slice a n c) n f := by
  obtain ⟨a, c, e⟩ := h.slice
  exact ⟨a, c, e, by rw [← e]; exact h⟩

theorem inc_one (n : Nat) (f : Nat → Int) (x : Int) : inc n f x = bth n f (plc x + 1) (one x) := by
  funext j
  show (if j = plc x then pl64 n f j + 1 else pl64 n f j) = pl64 n f j + (if j < plc x + 1 then (if j = plc x then 1 else 0) else 0)
  by_cases h : j = plc x
  · rw [if_pos h, if_pos (by omega), if_pos h]
  · rw [if_neg h]
    by_cases h2 : j < plc x + 1
    · rw [if_pos h2, if_neg h]; omega
    · rw [if_neg h2]; omega

set_option maxRecDepth 100000 in
set_option maxHeartbeats 8000000 in
theorem tallyTells_any (W : World) (hg : Hand W) (a : Option Addr) (n c : Nat) (f : Nat → Int) (b : Option Addr) (m d : Nat) (g : Nat → Int) (x p : Int) (hv : RdF W (.slice a n c) n (fun j => .int .i64 (f j))) (hu : RdF W (.slice b m d) m (fun j => .int .i64 (g j))) (hx : x ≤ 9223372036854775807) :
    Calls Tryd.prog 4 #[.slice a n c, .slice b m d, .int .i64 x, .int .i64 p] W fun e w' => e = .returned (.bool true) ∧ Fr [] W w' := by
  have hnl := hv.le_len
  have hml := hu.le_len
  have HV := Lib.hid hv; clear hv
  have HU := Lib.hid hu; clear hu
  have HG := Lib.hid hg; clear hg
  by_cases ht : tfault n f = 0
  · have HT := Lib.hid ht
    have HOK := Lib.hid (tfault_ok ht)
    clear ht
    go_enter Tryd.func4, Tryd.ntmps4
    go_wp2_with fail
    refine (added_any _).mono ?_
    rintro e w1 ⟨rfl, hf1⟩
    have HF1 := Lib.hid hf1; clear hf1
    go_wp2_with fail
    refine (tallyFault_any _ a n c f (HV.out.fr HF1.out (by simp)) hnl).mono ?_
    rintro e w2 ⟨rfl, q2, rfl⟩
    rw [HT.out]
    have HF2 := Lib.hid (HF1.out.drewN q2)
    generalize w1.drewN q2 = w2 at *
    clear HF1
    go_upto_if 33 with fail
    go_cut [11] (fun v wx => v = .int .i64 (if x < 0 then 6 else 0) ∧ wx = w2)
    case first =>
      by_cases hx0 : x < 0
      · have e6 : (if x < 0 then (6 : Int) else 0) = 6 := if_pos hx0
        have E6 := Lib.hid e6; clear e6
        go_wp2_with fail
        go_meet
        exact ⟨by rw [E6.out], rfl⟩
      · have e6 : (if x < 0 then (6 : Int) else 0) = 0 := if_neg hx0
        have E6 := Lib.hid e6; clear e6
        go_wp2_with fail
        go_meet
        exact ⟨by rw [E6.out], rfl⟩
    case rest =>
      obtain ⟨rfl, rfl⟩ := hcut
      generalize hK1 : (if x < 0 then (6 : Int) else 0) = K1
      have HK1 := Lib.hid hK1; clear hK1
      go_upto_if 35 with fail
      go_cut [11, 12] (fun k v wx => k = .int .i64 (addK n f x) ∧ RdF wx v (tl (addK n f x) (inc n f x)) (fun j => .int .i64 (inc n f x j)) ∧ Fr [] W wx)
      case first =>
        by_cases hx0 : x < 0
        · have e6 : K1 = 6 := by rw [← HK1.out, if_pos hx0]
          have ea : addK n f x = 6 := by unfold addK; rw [if_pos HT.out, if_pos hx0]
          have el : tl (addK n f x) (inc n f x) = 0 := by unfold tl; rw [ea]; rfl
          have EA := Lib.hid ea
          have EL := Lib.hid el
          clear ea el HK1
          subst e6
          go_wp2_with fail
          go_meet
          rw [EL.out, EA.out]
          exact ⟨rfl, RdF.nilv, HF2.out⟩
        · have e6 : K1 = 0 := by rw [← HK1.out, if_neg hx0]
          have ea : addK n f x = tk (bth n f (plc x + 1) (one x)) ∧ inc n f x = bth n f (plc x + 1) (one x) := by
            have e1 := inc_one n f x
            refine ⟨?_, e1⟩
            unfold addK
            rw [if_pos HT.out, if_neg hx0, e1]
          have EA := Lib.hid ea
          have hplc := plc_lt x (by omega) hx
          have hone : ∀ j, j < plc x + 1 → 0 ≤ one x j ∧ one x j ≤ 1125899906842624 := fun j _ => by unfold one; split <;> omega
          have HONE := Lib.hid hone
          have HSI := Lib.hid (fun w => single_any w x (by omega) hx)
          have HWI := Lib.hid (fun w b d h1 h2 => with_any w a n c f b (plc x + 1) d (one x) h1 h2 HOK.out.1 (by omega) HOK.out.2 hone)
          clear ea HK1 hone
          subst e6
          generalize plc x + 1 = P at *
          generalize one x = o1 at *
          go_wp2_with fail
          refine (HSI.out _).mono ?_
          rintro e w3 ⟨b3, d3, rfl, hr3, hf3⟩
          have HR3 := Lib.hid hr3
          have HF3 := Lib.hid (HF2.out.trans hf3 (by simp))
          clear hr3 hf3
          go_wp2_with fail
          refine (HWI.out _ _ _ (HV.out.fr HF3.out (by simp)) HR3.out).mono ?_
          rintro e w4 ⟨b4, d4, rfl, hr4, hf4⟩
          have HR4 := Lib.hid hr4
          have HF4 := Lib.hid (HF3.out.trans hf4 (by simp))
          clear hr4 hf4
          go_wp2_with fail
          go_meet
          rw [EA.out.1, EA.out.2]
          exact ⟨rfl, HR4.out, HF4.out⟩
      case rest =>
        obtain ⟨rfl, hr3, hf3⟩ := hcut
        obtain ⟨b3, d3, rfl, hr3'⟩ := hr3.sl
        have HR3 := Lib.hid hr3'
        have HF3 := Lib.hid hf3
        clear hr3 hr3' hf3 HF2 HK1
        have HAD := Lib.hid (fun w h => add_all w (.slice a n c) n f h x hx)
        generalize tl (addK n f x) (inc n f x) = L at *
        generalize addK n f x = K2 at *
        generalize inc n f x = I at *
        go_wp2_with fail
        refine (HAD.out _ (HV.out.fr HF3.out (by simp))).mono ?_
        rintro e w4 ⟨v4, rfl, hr4, hf4⟩
        obtain ⟨b4, d4, rfl, hr4'⟩ := hr4.sl
        have HR4 := Lib.hid hr4'
        have HR34 := Lib.hid (HR3.out.fr hf4 (by simp))
        have HF4 := Lib.hid (HF3.out.trans hf4 (by simp))
        clear hr4 hr4' hf4 HR3
        go_wp2_with fail
        refine (error_any _ (eo K2) K2 (HG.out.fr HF4.out (by simp))).mono ?_
        rintro e w5 ⟨rfl, hf5⟩
        rw [numOf_eo]
        have HR5 := Lib.hid (HR4.out.fr hf5 (by simp))
        have HR35 := Lib.hid (HR34.out.fr hf5 (by simp))
        have HF5 := Lib.hid (HF4.out.trans hf5 (by simp))
        clear hf5
        go_wp2_with fail
        refine (ints_any _ _ _ _ _ _ _ _ _ HR5.out HR35.out HR5.out.le_len HR5.out.le_len).mono ?_
        rintro e w6 ⟨rfl, q6, rfl⟩
        rw [eqUpTo_self]
        have HF6 := Lib.hid (HF5.out.drewN q6)
        generalize w5.drewN q6 = w6 at *
        clear HR4 HR34 HR5 HR35 HF3 HF4 HF5
        have HCB := Lib.hid (HOK.out.2)
        have hcv : cntV n f = isum f n := by unfold cntV; rw [if_pos HT.out]
        have HCV := Lib.hid hcv; clear hcv
        have hib := isum_bd f n HOK.out.2
        have HCO := Lib.hid (fun w h => counted_any w a n c f h HOK.out.1 HOK.out.2)
        have HCN := Lib.hid (fun w h => count_all w (.slice a n c) n f h)
        have HBN := Lib.hid (fun w h => bound_all w (.slice a n c) n f h p)
        have hbk : bndK n f p = if 0 ≤ p ∧ p ≤ 100 then (if isum f n = 0 then 9 else 0) else 6 := by unfold bndK; rw [if_pos HT.out]
        have HBK := Lib.hid hbk; clear hbk
        have hbd := isum_pl_all n f 64 HOK.out.1
        have hC64 : (n : Int) ≤ 64 := by have := HOK.out.1; omega
        have hCle : isum f n ≤ 72057594037927936 := by
          have h2 : (n : Int) * 1125899906842624 ≤ 64 * 1125899906842624 := Int.mul_le_mul_of_nonneg_right hC64 (by decide)
          omega
        have HBD := Lib.hid hbd; clear hbd hC64
        generalize hCC : isum f n = C at *
        have HCC := Lib.hid hCC; clear hCC
        go_wp2_with fail
        refine (HCO.out _ (HV.out.fr HF6.out (by simp))).mono ?_
        rintro e w7 ⟨rfl, rfl⟩
        go_wp2_with fail
        refine (HCN.out _ (HV.out.fr HF6.out (by simp))).mono ?_
        rintro e w7 ⟨rfl, hf7⟩
        rw [HT.out, HCV.out]
        have HF7 := Lib.hid (HF6.out.trans hf7 (by simp)); clear hf7
        go_wp2_with fail
        refine (error_any _ (eo 0) 0 (HG.out.fr HF7.out (by simp))).mono ?_
        rintro e w8 ⟨rfl, hf8⟩
        rw [numOf_eo]
        have HF8 := Lib.hid (HF7.out.trans hf8 (by simp)); clear hf8 HF6 HF7
        have hcc : (C == C) = true := by simp
        go_upto_region 22 with fail
        go_cut [94] (fun v wx => v = .bool (decide (¬ (0 ≤ p ∧ p ≤ 100))) ∧ wx = w8)
        case first =>
          rcases (by omega : p < 0 ∨ (¬ p < 0 ∧ 100 < p) ∨ (¬ p < 0 ∧ ¬ 100 < p)) with h1 | ⟨h1, h2⟩ | ⟨h1, h2⟩
          case' inl => have D := Lib.hid (show decide (¬ (0 ≤ p ∧ p ≤ 100)) = true by simp; omega)
          case' inr.inl => have D := Lib.hid (show decide (¬ (0 ≤ p ∧ p ≤ 100)) = true by simp; omega)
          case' inr.inr => have D := Lib.hid (show decide (¬ (0 ≤ p ∧ p ≤ 100)) = false by simp; omega)
          all_goals
            go_wp2_with fail
            go_meet
            rw [D.out]
            exact ⟨rfl, rfl⟩
        case rest =>
          obtain ⟨rfl, hwc⟩ := hcut
          replace hwc := hwc.symm
          subst hwc
          generalize hP : decide (¬ (0 ≤ p ∧ p ≤ 100)) = P
          have HP := Lib.hid hP; clear hP
          go_upto_if 94 with fail
          go_cut [11] (fun v wx => v = .int .i64 (if 0 ≤ p ∧ p ≤ 100 then 0 else 6) ∧ wx = w8)
          case first =>
            cases P with
            | true =>
              have E6 := Lib.hid (show (if 0 ≤ p ∧ p ≤ 100 then (0 : Int) else 6) = 6 from if_neg (by simpa using of_decide_eq_true HP.out))
              go_wp2_with fail
              go_meet
              exact ⟨by rw [E6.out], rfl⟩
            | false =>
              have E6 := Lib.hid (show (if 0 ≤ p ∧ p ≤ 100 then (0 : Int) else 6) = 0 from if_pos (by have := of_decide_eq_false HP.out; omega))
              go_wp2_with fail
              go_meet
              exact ⟨by rw [E6.out], rfl⟩
          case rest =>
            obtain ⟨rfl, hwc⟩ := hcut
            replace hwc := hwc.symm
            subst hwc
            clear HP
            generalize hK3 : (if 0 ≤ p ∧ p ≤ 100 then (0 : Int) else 6) = K3
            have HK3 := Lib.hid hK3; clear hK3
            go_upto_region 24 with fail
            go_cut [100] (fun v wx => v = .bool (decide (K3 = 0 ∧ C = 0)) ∧ wx = w8)
            case first =>
              by_cases h3 : K3 = 0
              · subst h3
                by_cases h4 : C = 0
                · have D := Lib.hid (show decide ((0 : Int) = 0 ∧ C = 0) = true by simp; exact h4)
                  have h5 : (C == 0) = true := by simpa using h4
                  clear h4
                  go_wp2_with fail
                  go_meet
                  rw [D.out]
                  exact ⟨rfl, rfl⟩
                · have D := Lib.hid (show decide ((0 : Int) = 0 ∧ C = 0) = false by simp; exact h4)
                  have h5 : (C == 0) = false := by simpa using h4
                  clear h4
                  go_wp2_with fail
                  go_meet
                  rw [D.out]
                  exact ⟨rfl, rfl⟩
              · have D := Lib.hid (show decide (K3 = 0 ∧ C = 0) = false by simp [h3])
                have h5 : (K3 == 0) = false := by simpa using h3
                go_wp2_with fail
                go_meet
                rw [D.out]
                exact ⟨rfl, rfl⟩
            case rest =>
              obtain ⟨rfl, hwc⟩ := hcut
              replace hwc := hwc.symm
              subst hwc
              generalize hQ : decide (K3 = 0 ∧ C = 0) = Q
              have HQ := Lib.hid hQ; clear hQ
              go_upto_if 100 with fail
              go_cut [11] (fun v wx => v = .int .i64 (bndK n f p) ∧ wx = w8)
              case first =>
                cases Q with
                | true =>
                  have hq : K3 = 0 ∧ C = 0 := of_decide_eq_true HQ.out
                  have E9 := Lib.hid (show bndK n f p = 9 by
                    rw [HBK.out]
                    have h := HK3.out
                    by_cases hp : 0 ≤ p ∧ p ≤ 100
                    · rw [if_pos hp, if_pos hq.2]
                    · rw [if_neg hp] at h; omega)
                  clear hq
                  go_wp2_with fail
                  go_meet
                  exact ⟨by rw [E9.out], rfl⟩
                | false =>
                  have hq : ¬ (K3 = 0 ∧ C = 0) := of_decide_eq_false HQ.out
                  have E9 := Lib.hid (show bndK n f p = K3 by
                    rw [HBK.out]
                    have h := HK3.out
                    by_cases hp : 0 ≤ p ∧ p ≤ 100
                    · rw [if_pos hp] at h ⊢
                      rw [if_neg (fun h2 => hq ⟨h.symm, h2⟩)]; exact h
                    · rw [if_neg hp] at h ⊢; exact h)
                  clear hq
                  go_wp2_with fail
                  go_meet
                  exact ⟨by rw [E9.out], rfl⟩
              case rest =>
                obtain ⟨rfl, hwc⟩ := hcut
                replace hwc := hwc.symm
                subst hwc
                clear HQ HK3
                generalize hKB : bndK n f p = KB at *
                have HKB := Lib.hid hKB; clear hKB
                go_upto_if 102 with fail
                go_cut [19] (fun v wx => ∃ X, v = .int .i64 X ∧ BndV n f p X ∧ wx = w8)
                case first =>
                  by_cases hz : KB = 0
                  · subst hz
                    have hpp : (0 ≤ p ∧ p ≤ 100) ∧ ¬ C = 0 := by
                      have h := HBK.out
                      by_cases hp : 0 ≤ p ∧ p ≤ 100
                      · rw [if_pos hp] at h
                        by_cases hc : C = 0
                        · rw [if_pos hc] at h; omega
                        · exact ⟨hp, hc⟩
                      · rw [if_neg hp] at h; omega
                    obtain ⟨⟨hp0, hp1⟩, hc0⟩ := hpp
                    have hn0 : 0 < n := by
                      by_cases h : n = 0
                      · subst h
                        exact absurd HCC.out.symm (by simpa [isum] using hc0)
                      · omega
                    obtain ⟨b1, o1, c1, he1, _, _, _, hc1⟩ := HV.out.shape hn0
                    simp only [Value.slice.injEq, true_and] at he1
                    obtain ⟨rfl, rfl⟩ := he1
                    have HC1 := Lib.hid (fun j hj => HF8.out.cell (hc1 j hj) (by simp))
                    have x0 : w8.cell? ⟨b1, o1, none⟩ = some (.int .i64 (f 0)) := by simpa using HC1.out 0 hn0
                    clear hc1
                    have P1 : 0 ≤ p * C ∧ p * C ≤ 100 * C := ⟨Int.mul_nonneg hp0 (by omega), Int.mul_le_mul_of_nonneg_right hp1 (by omega)⟩
                    have bd0 := HCB.out 0 hn0
                    have hn1 : (0 : Int) < (n : Int) := by omega
                    have e01 : isum f 1 = f 0 := by show 0 + f 0 = f 0; omega
                    have E01 := Lib.hid e01; clear e01
                    go_wp2
                    clear x0
                    go_loopw [19, 20, 21] (fun bo be i wx => ∃ k : Nat, k + 1 ≤ n ∧ i = .int .i64 ((k : Int) + 1) ∧ be = .int .i64 (isum f (k + 1)) ∧ bo = .int .i64 (2 ^ k - 1) ∧ Hid (∀ j, j < k → 100 * isum f (j + 1) < p * C) ∧ wx = w8) (fun _ _ i _ => n + 1 - (intOf i).toNat)
                    case atStart => exact ⟨0, by omega, rfl, by rw [E01.out], rfl, Lib.hid (fun j hj => by omega), rfl⟩
                    case round =>
                      obtain ⟨k, hk, rfl, rfl, rfl, HK, rfl⟩ := hrel
                      have hib2 := isum_bd f (k + 1) (fun j hj => HCB.out j (by omega))
                      have hkn : (k : Int) + 1 ≤ 64 := by have := HOK.out.1; omega
                      have hile : isum f (k + 1) ≤ C := by
                        have h1 := isum_mono (pl64 n f) (fun j => (pl64_bd HCB.out j).1) (k + 1) 64 (by have := HOK.out.1; omega)
                        rw [isum_pl_le n f (k + 1) (by omega), HBD.out] at h1
                        exact h1
                      by_cases hlt : 100 * isum f (k + 1) < p * C
                      · have hk1 : k + 1 < n := by
                          by_cases h : k + 1 < n
                          · exact h
                          · have : k + 1 = n := by omega
                            have h2 := HCC.out
                            rw [← this] at h2
                            omega
                        have y1 := HC1.out (k + 1) hk1
                        have bd1 := HCB.out (k + 1) hk1
                        have hp2 : ∃ t : Nat, (2 : Int) ^ k = (t : Int) ∧ 1 ≤ t ∧ t ≤ 4611686018427387904 ∧ (2 : Int) ^ (k + 1) = 2 * (t : Int) := by
                          refine ⟨2 ^ k, by simp, Nat.one_le_two_pow, ?_, by rw [Int.pow_succ]; simp; omega⟩
                          have := Nat.pow_le_pow_right (n := 2) (by decide) (show k ≤ 62 by have := HOK.out.1; omega)
                          simpa using this
                        obtain ⟨t, ht1, ht2, ht3, ht4⟩ := hp2
                        have HT4 := Lib.hid ht4
                        rw [ht1]
                        clear ht1 ht4
                        have i0 : (0 : Int) ≤ (k : Int) + 1 := by omega
                        have i1 : (k : Int) + 1 < (n : Int) := by omega
                        have i2 : ((k : Int) + 1).toNat = k + 1 := by omega
                        go_wp2
                        go_roundw
                        case rel => exact ⟨k + 1, by omega, by go_num, by first | rfl | (congr 1), by rw [HT4.out]; congr 1; omega, Lib.hid (fun j hj => by
                          by_cases h : j < k
                          · exact HK.out j h
                          · obtain rfl : j = k := by omega
                            exact hlt), by trivial⟩
                        case measure => simp [intOf]; omega
                      · have HBV := Lib.hid (show BndV n f p (2 ^ k - 1) by
                          unfold BndV
                          rw [if_pos HKB.out]
                          refine ⟨k, ⟨by have := HOK.out.1; omega, fun j hj => ?_, ?_⟩, rfl⟩
                          · have h1 := HK.out j hj
                            rw [isum_pl_le n f (j + 1) (by omega), HBD.out]
                            exact h1
                          · rw [isum_pl_le n f (k + 1) (by omega), HBD.out]
                            omega)
                        go_wp2
                        go_meet
                        exact ⟨_, rfl, HBV.out, rfl⟩
                  · have HBV := Lib.hid (show BndV n f p 0 by unfold BndV; rw [if_neg (by rw [HKB.out]; exact hz)])
                    have h5 : (KB == 0) = false := by simpa using hz
                    go_wp2_with fail
                    go_meet
                    exact ⟨0, rfl, HBV.out, rfl⟩
                case rest =>
                  obtain ⟨X, rfl, hbv, rfl⟩ := hcut
                  have HBV := Lib.hid hbv; clear hbv
                  go_wp2_with fail
                  refine (HBN.out _ (HV.out.fr HF8.out (by simp))).mono ?_
                  rintro e w9 ⟨Y, hY, rfl, hf9⟩
                  obtain rfl := hY.uniq HBV.out
                  have HF9 := Lib.hid (HF8.out.trans hf9 (by simp)); clear hf9 hY
                  go_wp2_with fail
                  refine (error_any _ (eo KB) KB (HG.out.fr HF9.out (by simp))).mono ?_
                  rintro e w10 ⟨rfl, hf10⟩
                  rw [numOf_eo]
                  have HF10 := Lib.hid (HF9.out.trans hf10 (by simp)); clear hf10 HF8 HF9
                  have hxx : (Y == Y) = true := by simp
                  go_wp2_with fail
                  refine (tallyFault_any _ b m d g (HU.out.fr HF10.out (by simp)) hml).mono ?_
                  rintro e w11 ⟨rfl, q11, rfl⟩
                  have HF11 := Lib.hid (HF10.out.drewN q11)
                  generalize w10.drewN q11 = w11 at *
                  have hjk : joinK n f m g = if tfault m g = 0 then tk (bth n f m g) else tfault m g := by unfold joinK; rw [if_pos HT.out]
                  have HJK := Lib.hid hjk; clear hjk
                  have HWI := Lib.hid (fun w h1 h2 h3 => with_any w a n c f b m d g h1 h2 HOK.out.1 h3 HOK.out.2)
                  have HOK2 := Lib.hid (fun h => tfault_ok (n := m) (f := g) h)
                  have HJN := Lib.hid (fun w h1 h2 => join_all w (.slice a n c) (.slice b m d) n f m g h1 h2)
                  generalize hTM : tfault m g = TM at *
                  clear hTM
                  go_upto_if 144 with fail
                  go_cut [10, 12] (fun k v wx => k = .int .i64 (joinK n f m g) ∧ RdF wx v (tl (joinK n f m g) (bth n f m g)) (fun j => .int .i64 (bth n f m g j)) ∧ Fr [] W wx)
                  case first =>
                    by_cases h0 : TM = 0
                    · have hok2 := HOK2.out h0
                      have HO2 := Lib.hid hok2; clear hok2
                      have ej := HJK.out
                      rw [if_pos h0] at ej
                      have EJ := Lib.hid ej; clear ej
                      subst h0
                      go_wp2_with fail
                      refine (HWI.out _ (HV.out.fr HF11.out (by simp)) (HU.out.fr HF11.out (by simp)) HO2.out.1 HO2.out.2).mono ?_
                      rintro e w12 ⟨o12, c12, rfl, hr12, hf12⟩
                      have HR12 := Lib.hid hr12
                      have HF12 := Lib.hid (HF11.out.trans hf12 (by simp))
                      clear hr12 hf12
                      go_wp2_with fail
                      go_meet
                      rw [EJ.out]
                      exact ⟨rfl, HR12.out, HF12.out⟩
                    · have ej := HJK.out
                      rw [if_neg h0] at ej
                      have EJ := Lib.hid ej
                      have EL := Lib.hid (show tl (joinK n f m g) (bth n f m g) = 0 by unfold tl; rw [if_neg (by rw [ej]; exact h0)])
                      clear ej
                      have h5 : (TM == 0) = false := by simpa using h0
                      go_wp2_with fail
                      go_meet
                      rw [EL.out, EJ.out]
                      exact ⟨rfl, RdF.nilv, HF11.out⟩
                  case rest =>
                    obtain ⟨rfl, hr12, hf12⟩ := hcut
                    obtain ⟨o12, c12, rfl, hr12'⟩ := hr12.sl
                    have HR12 := Lib.hid hr12'
                    have HF12 := Lib.hid hf12
                    clear hr12 hr12' hf12 HWI HJK HOK2 HF11 HF10
                    generalize tl (joinK n f m g) (bth n f m g) = L at *
                    generalize joinK n f m g = KJ at *
                    generalize bth n f m g = J at *
                    go_wp2_with fail
                    refine (HJN.out _ (HV.out.fr HF12.out (by simp)) (HU.out.fr HF12.out (by simp))).mono ?_
                    rintro e w13 ⟨v13, rfl, hr13, hf13⟩
                    obtain ⟨o13, c13, rfl, hr13'⟩ := hr13.sl
                    have HR13 := Lib.hid hr13'
                    have HR123 := Lib.hid (HR12.out.fr hf13 (by simp))
                    have HF13 := Lib.hid (HF12.out.trans hf13 (by simp))
                    clear hr13 hr13' hf13 HR12
                    go_wp2_with fail
                    refine (error_any _ (eo KJ) KJ (HG.out.fr HF13.out (by simp))).mono ?_
                    rintro e w14 ⟨rfl, hf14⟩
                    rw [numOf_eo]
                    have HR14 := Lib.hid (HR13.out.fr hf14 (by simp))
                    have HR124 := Lib.hid (HR123.out.fr hf14 (by simp))
                    have HF14 := Lib.hid (HF13.out.trans hf14 (by simp))
                    clear hf14
                    go_wp2_with fail
                    refine (ints_any _ _ _ _ _ _ _ _ _ HR14.out HR124.out HR14.out.le_len HR14.out.le_len).mono ?_
                    rintro e w15 ⟨rfl, q15, rfl⟩
                    rw [eqUpTo_self]
                    go_wp2
                    go_ret
                    exact ⟨rfl, HF14.out.drewN q15⟩
  · have ea : addK n f x = tfault n f := by unfold addK; rw [if_neg ht]
    have el : tl (addK n f x) (inc n f x) = 0 := by unfold tl; rw [if_neg (by rw [ea]; exact ht)]
    have ej : joinK n f m g = tfault n f := by unfold joinK; rw [if_neg ht]
    have ejl : tl (joinK n f m g) (bth n f m g) = 0 := by unfold tl; rw [if_neg (by rw [ej]; exact ht)]
    have ec : cntV n f = 0 := by unfold cntV; rw [if_neg ht]
    have eb : bndK n f p = tfault n f := by unfold bndK; rw [if_neg ht]
    have HBZ := Lib.hid (show ∀ X, BndV n f p X → X = 0 from fun X hX => by unfold BndV at hX; rw [if_neg (by rw [eb]; exact ht)] at hX; exact hX)
    have HAD := Lib.hid (fun w h => add_all w (.slice a n c) n f h x hx)
    have HCN := Lib.hid (fun w h => count_all w (.slice a n c) n f h)
    have HBN := Lib.hid (fun w h => bound_all w (.slice a n c) n f h p)
    have HJN := Lib.hid (fun w h1 h2 => join_all w (.slice a n c) (.slice b m d) n f m g h1 h2)
    have HTF := Lib.hid (fun w h => tallyFault_any w a n c f h hnl)
    rw [el, ea] at HAD
    rw [ec] at HCN
    rw [eb] at HBN
    rw [ejl, ej] at HJN
    clear ea el ej ejl ec eb
    generalize tfault n f = K at *
    have h5 : (K == 0) = false := by simpa using ht
    go_enter Tryd.func4, Tryd.ntmps4
    go_wp2_with fail
    refine (added_any _).mono ?_
    rintro e w1 ⟨rfl, hf1⟩
    have HF1 := Lib.hid hf1; clear hf1
    go_wp2_with fail
    refine (HTF.out _ (HV.out.fr HF1.out (by simp))).mono ?_
    rintro e w2 ⟨rfl, q2, rfl⟩
    have HF2 := Lib.hid (HF1.out.drewN q2)
    generalize w1.drewN q2 = w2 at *
    clear HF1
    go_wp2_with fail
    refine (HAD.out _ (HV.out.fr HF2.out (by simp))).mono ?_
    rintro e w4 ⟨v4, rfl, hr4, hf4⟩
    obtain ⟨b4, d4, rfl, hr4'⟩ := hr4.sl
    have HR4 := Lib.hid hr4'
    have HF4 := Lib.hid (HF2.out.trans hf4 (by simp))
    clear hr4 hr4' hf4
    go_wp2_with fail
    refine (error_any _ (eo K) K (HG.out.fr HF4.out (by simp))).mono ?_
    rintro e w5 ⟨rfl, hf5⟩
    rw [numOf_eo]
    have HR5 := Lib.hid (HR4.out.fr hf5 (by simp))
    have HF5 := Lib.hid (HF4.out.trans hf5 (by simp))
    clear hf5
    go_wp2_with fail
    refine (ints_any _ _ _ 0 0 _ _ _ (fun _ => 0) HR5.out RdF.nilv (by omega) (by omega)).mono ?_
    rintro e w6 ⟨rfl, q6, rfl⟩
    rw [eqUpTo_zero]
    have HF6 := Lib.hid (HF5.out.drewN q6)
    generalize w5.drewN q6 = w6 at *
    clear HR4 HR5 HF4 HF5
    go_wp2_with fail
    refine (HCN.out _ (HV.out.fr HF6.out (by simp))).mono ?_
    rintro e w7 ⟨rfl, hf7⟩
    have HF7 := Lib.hid (HF6.out.trans hf7 (by simp)); clear hf7
    go_wp2_with fail
    refine (error_any _ (eo K) K (HG.out.fr HF7.out (by simp))).mono ?_
    rintro e w8 ⟨rfl, hf8⟩
    rw [numOf_eo]
    have HF8 := Lib.hid (HF7.out.trans hf8 (by simp)); clear hf8 HF6 HF7
    go_wp2_with fail
    refine (HBN.out _ (HV.out.fr HF8.out (by simp))).mono ?_
    rintro e w9 ⟨Y, hY, rfl, hf9⟩
    obtain rfl := HBZ.out Y hY
    have HF9 := Lib.hid (HF8.out.trans hf9 (by simp)); clear hf9 hY
    go_wp2_with fail
    refine (error_any _ (eo K) K (HG.out.fr HF9.out (by simp))).mono ?_
    rintro e w10 ⟨rfl, hf10⟩
    rw [numOf_eo]
    have HF10 := Lib.hid (HF9.out.trans hf10 (by simp)); clear hf10 HF8 HF9
    go_wp2_with fail
    refine (HJN.out _ (HV.out.fr HF10.out (by simp)) (HU.out.fr HF10.out (by simp))).mono ?_
    rintro e w13 ⟨v13, rfl, hr13, hf13⟩
    obtain ⟨o13, c13, rfl, hr13'⟩ := hr13.sl
    have HR13 := Lib.hid hr13'
    have HF13 := Lib.hid (HF10.out.trans hf13 (by simp))
    clear hr13 hr13' hf13
    go_wp2_with fail
    refine (error_any _ (eo K) K (HG.out.fr HF13.out (by simp))).mono ?_
    rintro e w14 ⟨rfl, hf14⟩
    rw [numOf_eo]
    have HR14 := Lib.hid (HR13.out.fr hf14 (by simp))
    have HF14 := Lib.hid (HF13.out.trans hf14 (by simp))
    clear hf14
    go_wp2_with fail
    refine (ints_any _ _ _ 0 0 _ _ _ (fun _ => 0) HR14.out RdF.nilv (by omega) (by omega)).mono ?_
    rintro e w15 ⟨rfl, q15, rfl⟩
    rw [eqUpTo_zero]
    go_wp2
    go_ret
    exact ⟨rfl, HF14.out.drewN q15⟩

end Go.Proofs.YtgpfkaiinbncnaaDoor
