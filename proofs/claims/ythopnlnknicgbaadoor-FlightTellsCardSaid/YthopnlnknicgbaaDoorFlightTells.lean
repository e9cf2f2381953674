/- FlightTells: the walk. -/
import Derived.Test.YthopnlnknicgbaaDoorFlightApart
namespace Go.Proofs.YthopnlnknicgbaaDoor
open Go.RowKit

def whoOf : Option (Int × Int) → Int
  | none => 0
  | some (a, _) => a

set_option maxRecDepth 100000 in
set_option maxHeartbeats 4000000 in
theorem flightTells_any (w : World) (hg : Hand w) (n : Int) (a : Option Addr) (m c : Nat) (f : Nat → Int) (hv : RdF w (.slice a m c) m (fun j => .int .i64 (f j))) :
    Calls Tryd.prog 4 #[.int .i64 n, .slice a m c] w fun e w' => e = .returned (.bool true) ∧ Fr [] w w' := by
  have HV := Lib.hid hv; clear hv
  have HG := Lib.hid hg; clear hg
  go_enter Tryd.func4, Tryd.ntmps4
  go_wp2_with fail
  refine (flown_any _).mono ?_
  rintro e w0 ⟨rfl, hf0⟩
  have HF0 := Lib.hid hf0; clear hf0
  by_cases hok : FOk n
  · have HOK := Lib.hid hok
    unfold FOk at hok
    obtain ⟨N, rfl⟩ : ∃ N : Nat, n = (N : Int) := ⟨n.toNat, by omega⟩
    have hN : 1 ≤ N ∧ N ≤ 1000 := by omega
    go_wp2_with fail
    refine (flight_new _ N).mono ?_
    rintro e w1 ⟨hf1, ⟨_, p, g, rfl, hp, hg, hP⟩ | ⟨hno, _⟩⟩
    · have HF1 := Lib.hid (HF0.out.trans hf1 (S := []) (by simp)); clear hf1
      have hs0 := HF0.out.size
      simp only [Int.toNat_natCast] at hP
      have hpw : w.heap.size ≤ p ∧ w.heap.size ≤ g := by omega
      have hpg : ∀ x ∈ [p, g], x ∈ ([] : List Nat) ∨ w.heap.size ≤ x := fun x hx => by simp at hx; right; omega
      have HPG := Lib.hid hpg; clear hpg hp hg hs0
      have HP := Lib.hid hP; clear hP
      go_wp2_with fail
      refine (error_any _ none 0 (HG.out.fr HF1.out (by simp))).mono ?_
      rintro e w2 ⟨rfl, hf2⟩
      rw [show decide (numOf none = 0) = true from rfl]
      have HP2 := Lib.hid (HP.out.kept hf2)
      have HF2 := Lib.hid (HF1.out.trans hf2 (by simp)); clear hf2
      by_cases hm : 60 < m
      · go_wp2
        go_ret
        exact ⟨rfl, HF2.out⟩
      have d1 : decide (60 < (m : Int)) = false := by simp; omega
      have d2 : decide (60 < m) = false := by simp; omega
      have hmk := run_mk (P := Tryd.prog) 22 3 infoInt Tryd.underlying22 N (by omega) (by unfold maxLen; omega)
      have hsz := HF2.out.size
      go_wp2
      clear d1 d2 hmk
      have hr0 := row_mk w2 3 (.int .i64 0) rfl N (by unfold maxLen; omega)
      have HR0 := Lib.hid hr0; clear hr0
      have HP3 := Lib.hid (HP2.out.kept ((Fr.refl [] w2).alloc (.cells (madeCells (Value.int .i64 0).cells N) 3)))
      have HF3 := Lib.hid (HF2.out.alloc (.cells (madeCells (Value.int .i64 0).cells N) 3))
      generalize w2.heap.size = gw at *
      go_loopw [11, 12] (fun bz i wr => ∃ (t : Nat) (pb : Nat → Nat) (sl : Nat → Option (Int × Int)) (busy : Int), t ≤ m ∧ i = .int .i64 t ∧ bz = .int .i64 busy ∧ (-(t : Int) ≤ busy ∧ busy ≤ t) ∧
        (∀ j x y, sl j = some (x, y) → ∃ q : Nat, q < t ∧ x = (q : Int) + 1 ∧ y = f q) ∧ RowI wr gw N N (fun j => whoOf (sl j)) ∧ Fly wr p g N pb sl busy ∧ Fr [] w wr) (fun _ i _ => m - (intOf i).toNat)
      case atStart => exact ⟨0, _, fun _ => none, 0, by omega, rfl, rfl, by simp, fun j x y e => by simp at e, HR0.out, HP3.out, HF3.out⟩
      case round =>
        clear HP HP2 HP3 HR0 HF3
        obtain ⟨t, pb, sl, busy, ht, rfl, rfl, hbz, hsl, hr, hP, hf⟩ := hrel
        have HR := Lib.hid hr; clear hr
        have HPk := Lib.hid hP; clear hP
        have HF := Lib.hid hf; clear hf
        have HSL := Lib.hid hsl; clear hsl
        have HOW := Lib.hid (show OwnF wr w.heap.size 3 (.slice (some ⟨gw, 0, none⟩) N N) N (fun j => .int .i64 (whoOf (sl j))) from .inr ⟨gw, N, rfl, by omega, HR.out⟩)
        by_cases hlt : t < m
        · obtain ⟨b1, o1, c1, he1, _, _, _, hc1⟩ := HV.out.shape (by omega)
          simp only [Value.slice.injEq, true_and] at he1
          obtain ⟨rfl, rfl⟩ := he1
          have K1 := Lib.hid (hc1 t hlt)
          have k1 := HF.out.cell K1.out (by simp)
          have HCALLS := Lib.hid hc1
          clear hc1
          have k0 : (0 : Int) ≤ (t : Int) := by omega
          have k3 : (t : Int) < (m : Int) := by omega
          by_cases hneg : f t < 0
          · go_wp2
            clear k1
            go_loopw [15] (fun s wx => ∃ q : Nat, q ≤ N ∧ s = .int .i64 q ∧ Hid (∀ j, j < q → sl j ≠ none) ∧ wx = wr) (fun s _ => N - (intOf s).toNat)
            case atStart => exact ⟨0, by omega, rfl, Lib.hid (fun j hj => by omega), rfl⟩
            case round =>
              obtain ⟨q, hq, rfl, HN, rfl⟩ := hrel
              by_cases hlt2 : q < N
              · have q0 : (0 : Int) ≤ (q : Int) := by omega
                have q3 : (q : Int) < (N : Int) := by omega
                have x1 := HR.out.cell q hlt2
                by_cases hs : sl q = none
                · have HFF := Lib.hid (ffr_hit sl N q hlt2 hs HN.out)
                  simp only [hs, whoOf] at x1
                  have z1 := HR.out.frozen q
                  have hqn : ((q : Int) == (N : Int)) = false := by simp; omega
                  clear hs
                  go_wp2_with fail
                  have hst := HR.out.stored q (.int .i64 ((t : Int) + 1))
                  have hf4 : Fr [gw] wr (wr.setCell ⟨gw, q, none⟩ (.int .i64 ((t : Int) + 1))) := (Fr.refl [gw] wr).setCell (by simp) _
                  have HP4 := Lib.hid (HPk.out.appd HOW.out (by simpa [Value.ownBlock] using hf4))
                  have HF4 := Lib.hid (HF.out.trans hf4 (fun y hy => .inr (by simp at hy; omega)))
                  have HR4 := Lib.hid (show RowI _ gw N N (fun j => whoOf (if j = q then some ((t : Int) + 1, f t) else sl j)) from hst.congr (fun j hj => by
                    by_cases h4 : j = q
                    · simp only [if_pos h4]; rfl
                    · simp only [if_neg h4]))
                  clear hst hf4 x1 z1
                  generalize wr.setCell ⟨gw, q, none⟩ (.int .i64 ((t : Int) + 1)) = w4 at *
                  have HOW4 := Lib.hid (show OwnF w4 w.heap.size 3 (.slice (some ⟨gw, 0, none⟩) N N) N _ from .inr ⟨gw, N, rfl, by omega, HR4.out⟩)
                  refine (flight_open _ HP4.out (by omega) (by omega) ((t : Int) + 1) (f t)).mono ?_
                  rintro e w5 (⟨_, rfl, ⟨b2, hP5⟩, hf5⟩ | ⟨hfull, _⟩)
                  · rw [HFF.out] at hP5 ⊢
                    have HP5 := Lib.hid hP5
                    have HR5 := Lib.hid (HR4.out.kept hf5 (own_apart HP4.out HOW4.out _ rfl))
                    have HF5 := Lib.hid (HF4.out.trans hf5 HPG.out)
                    clear hP5 hf5
                    go_wp2_with fail
                    refine (error_any _ none 0 (HG.out.fr HF5.out (by simp))).mono ?_
                    rintro e w6 ⟨rfl, hf6⟩
                    rw [show decide (numOf none = 0) = true from rfl]
                    have HP6 := Lib.hid (HP5.out.kept hf6)
                    have HR6 := Lib.hid (HR5.out.kept hf6 (by simp))
                    have HF6 := Lib.hid (HF5.out.trans hf6 (by simp))
                    clear hf6
                    have hqq : ((q : Int) == (q : Int)) = true := by simp
                    go_wp2_with fail
                    refine (flight_busy _ HP6.out).mono ?_
                    rintro e w7 ⟨rfl, rfl⟩
                    have hbb : ((busy + 1) == (busy + 1)) = true := by simp
                    go_wp2
                    go_roundw
                    case rel =>
                      refine ⟨t + 1, _, fun j => if j = q then some ((t : Int) + 1, f t) else sl j, busy + 1, by omega, by go_num, rfl, by omega, fun j x y e => ?_, HR6.out, HP6.out, HF6.out⟩
                      by_cases h4 : j = q
                      · simp only [if_pos h4] at e
                        simp only [Option.some.injEq, Prod.mk.injEq] at e
                        exact ⟨t, by omega, e.1.symm, e.2.symm⟩
                      · simp only [if_neg h4] at e
                        obtain ⟨q2, h1, h2⟩ := HSL.out j x y e
                        exact ⟨q2, by omega, h2⟩
                    case measure => simp [intOf]; omega
                  · rw [HFF.out] at hfull; omega
                · obtain ⟨⟨xa, xb⟩, hxy⟩ : ∃ xy, sl q = some xy := Option.ne_none_iff_exists'.1 hs
                  obtain ⟨q2, hq2, rfl, rfl⟩ := HSL.out q xa xb hxy
                  simp only [hxy, whoOf] at x1
                  have HN2 := Lib.hid (show ∀ j, j < q + 1 → sl j ≠ none from fun j hj => by
                    by_cases h3 : j = q
                    · subst h3; exact hs
                    · exact HN.out j (by omega))
                  clear hs hxy
                  have hne : (((q2 : Int) + 1) == 0) = false := by simp; omega
                  have hne2 : ¬ ((q2 : Int) + 1 = 0) := by omega
                  go_wp2
                  go_roundw
                  case rel => exact ⟨q + 1, by omega, by go_num, HN2, by trivial⟩
                  case measure => simp [intOf]; omega
              · obtain rfl : q = N := by omega
                have HFF := Lib.hid (ffr_miss sl q HN.out)
                have hqq : ((q : Int) == (q : Int)) = true := by simp
                go_wp2_with fail
                refine (flight_open _ HPk.out (by omega) (by omega) ((t : Int) + 1) (f t)).mono ?_
                rintro e w5 (⟨hbad, _⟩ | ⟨_, rfl, rfl⟩)
                · rw [HFF.out] at hbad; omega
                · have HFQ := Lib.hid HF.out
                  go_wp2_with fail
                  refine (error_any _ (some 7) 7 (HG.out.fr HF.out (by simp))).mono ?_
                  rintro e w6 ⟨rfl, hf6⟩
                  rw [show decide (numOf (some 7) = 7) = true from rfl]
                  have HP6 := Lib.hid (HPk.out.kept hf6)
                  have HR6 := Lib.hid (HR.out.kept hf6 (by simp))
                  have HF6 := Lib.hid (HF.out.trans hf6 (by simp))
                  clear hf6
                  go_wp2_with fail
                  refine (flight_busy _ HP6.out).mono ?_
                  rintro e w7 ⟨rfl, rfl⟩
                  have hbb : (busy == busy) = true := by simp
                  go_wp2
                  go_roundw
                  case rel =>
                    refine ⟨t + 1, _, sl, busy, by omega, by go_num, rfl, by omega, fun j x y e => ?_, HR6.out, HP6.out, HF6.out⟩
                    obtain ⟨q2, h1, h2⟩ := HSL.out j x y e
                    exact ⟨q2, by omega, h2⟩
                  case measure => simp [intOf]; omega
          · obtain ⟨k, hk⟩ : ∃ k : Nat, f t = (k : Int) := ⟨(f t).toNat, by omega⟩
            rw [hk] at k1
            by_cases hkN : k < N
            · have hk0 : (0 : Int) ≤ (k : Int) := by omega
              have hk3 : (k : Int) < (N : Int) := by omega
              have x1 := HR.out.cell k hkN
              by_cases hs : sl k = none
              · simp only [hs, whoOf] at x1
                go_wp2_with fail
                refine (flight_close_none _ HPk.out (by omega) k hkN hs).mono ?_
                rintro e w5 ⟨rfl, rfl⟩
                clear hs x1 k1
                go_wp2_with fail
                refine (error_any _ (some 9) 9 (HG.out.fr HF.out (by simp))).mono ?_
                rintro e w6 ⟨rfl, hf6⟩
                rw [show decide (numOf (some 9) = 9) = true from rfl]
                have HP6 := Lib.hid (HPk.out.kept hf6)
                have HR6 := Lib.hid (HR.out.kept hf6 (by simp))
                have HF6 := Lib.hid (HF.out.trans hf6 (by simp))
                clear hf6
                go_wp2_with fail
                refine (flight_busy _ HP6.out).mono ?_
                rintro e w7 ⟨rfl, rfl⟩
                have hbb : (busy == busy) = true := by simp
                go_wp2
                go_roundw
                case rel =>
                  refine ⟨t + 1, _, sl, busy, by omega, by go_num, rfl, by omega, fun j x y e => ?_, HR6.out, HP6.out, HF6.out⟩
                  obtain ⟨q2, h1, h2⟩ := HSL.out j x y e
                  exact ⟨q2, by omega, h2⟩
                case measure => simp [intOf]; omega
              · obtain ⟨⟨xa, xb⟩, hxy⟩ : ∃ xy, sl k = some xy := Option.ne_none_iff_exists'.1 hs
                obtain ⟨q2, hq2, rfl, rfl⟩ := HSL.out k xa xb hxy
                simp only [hxy, whoOf] at x1
                have z1 := HR.out.frozen k
                have y1 := HF.out.cell (HCALLS.out q2 (by omega)) (by simp)
                have hne : (((q2 : Int) + 1) == 0) = false := by simp; omega
                have hne2 : ¬ ((q2 : Int) + 1 = 0) := by omega
                have q20 : (0 : Int) ≤ (q2 : Int) := by omega
                have q23 : (q2 : Int) < (m : Int) := by omega
                have HXY := Lib.hid hxy
                clear hs hxy
                go_wp2_with fail
                have hst := HR.out.stored k (.int .i64 0)
                have hf4 : Fr [gw] wr (wr.setCell ⟨gw, k, none⟩ (.int .i64 0)) := (Fr.refl [gw] wr).setCell (by simp) _
                have HP4 := Lib.hid (HPk.out.appd HOW.out (by simpa [Value.ownBlock] using hf4))
                have HF4 := Lib.hid (HF.out.trans hf4 (fun y hy => .inr (by simp at hy; omega)))
                have HR4 := Lib.hid (show RowI _ gw N N (fun j => whoOf (if j = k then none else sl j)) from hst.congr (fun j hj => by
                  by_cases h4 : j = k
                  · simp only [if_pos h4]; rfl
                  · simp only [if_neg h4]))
                clear hst hf4 x1 z1 y1 k1
                generalize wr.setCell ⟨gw, k, none⟩ (.int .i64 0) = w4 at *
                have HOW4 := Lib.hid (show OwnF w4 w.heap.size 3 (.slice (some ⟨gw, 0, none⟩) N N) N _ from .inr ⟨gw, N, rfl, by omega, HR4.out⟩)
                refine (flight_close _ HP4.out (by omega) (by omega) k hkN _ _ HXY.out).mono ?_
                rintro e w5 ⟨rfl, ⟨b2, hP5⟩, hf5⟩
                have HP5 := Lib.hid hP5
                have HR5 := Lib.hid (HR4.out.kept hf5 (own_apart HP4.out HOW4.out _ rfl))
                have HF5 := Lib.hid (HF4.out.trans hf5 HPG.out)
                clear hP5 hf5
                go_wp2_with fail
                refine (error_any _ none 0 (HG.out.fr HF5.out (by simp))).mono ?_
                rintro e w6 ⟨rfl, hf6⟩
                rw [show decide (numOf none = 0) = true from rfl]
                have HP6 := Lib.hid (HP5.out.kept hf6)
                have HR6 := Lib.hid (HR5.out.kept hf6 (by simp))
                have HF6 := Lib.hid (HF5.out.trans hf6 (by simp))
                clear hf6
                have hqq : (((q2 : Int) + 1) == ((q2 : Int) + 1)) = true := by simp
                have hyy : (f q2 == f q2) = true := by simp
                go_wp2_with fail
                refine (flight_busy _ HP6.out).mono ?_
                rintro e w7 ⟨rfl, rfl⟩
                have hbb : ((busy - 1) == (busy - 1)) = true := by simp
                go_wp2
                go_roundw
                case rel =>
                  refine ⟨t + 1, _, fun j => if j = k then none else sl j, busy - 1, by omega, by go_num, rfl, by omega, fun j x y e => ?_, HR6.out, HP6.out, HF6.out⟩
                  by_cases h4 : j = k
                  · simp only [if_pos h4] at e
                    simp at e
                  · simp only [if_neg h4] at e
                    obtain ⟨q2, h1, h2⟩ := HSL.out j x y e
                    exact ⟨q2, by omega, h2⟩
                case measure => simp [intOf]; omega
            · have hkN2 : ¬ (k : Int) < (N : Int) := by omega
              have hkN3 : (N : Int) ≤ (k : Int) := by omega
              go_wp2_with fail
              refine (flight_close_range _ HPk.out (by omega) k hkN3).mono ?_
              rintro e w5 ⟨rfl, rfl⟩
              clear k1
              go_wp2_with fail
              refine (error_any _ (some 6) 6 (HG.out.fr HF.out (by simp))).mono ?_
              rintro e w6 ⟨rfl, hf6⟩
              rw [show decide (numOf (some 6) = 6) = true from rfl]
              have HP6 := Lib.hid (HPk.out.kept hf6)
              have HR6 := Lib.hid (HR.out.kept hf6 (by simp))
              have HF6 := Lib.hid (HF.out.trans hf6 (by simp))
              clear hf6
              go_wp2_with fail
              refine (flight_busy _ HP6.out).mono ?_
              rintro e w7 ⟨rfl, rfl⟩
              have hbb : (busy == busy) = true := by simp
              go_wp2
              go_roundw
              case rel =>
                refine ⟨t + 1, _, sl, busy, by omega, by go_num, rfl, by omega, fun j x y e => ?_, HR6.out, HP6.out, HF6.out⟩
                obtain ⟨q2, h1, h2⟩ := HSL.out j x y e
                exact ⟨q2, by omega, h2⟩
              case measure => simp [intOf]; omega
        · obtain rfl : t = m := by omega
          go_wp2
          go_ret
          exact ⟨rfl, HF.out⟩
    · exact absurd HOK.out hno
  · have HOK := Lib.hid hok
    unfold FOk at hok
    by_cases h1 : n < 1
    all_goals
      go_wp2_with fail
      refine (flight_new _ n).mono ?_
      rintro e w1 ⟨hf1, ⟨hok2, _⟩ | ⟨_, rfl⟩⟩
      · exact absurd hok2 HOK.out
      · have HF1 := Lib.hid (HF0.out.trans hf1 (S := []) (by simp)); clear hf1
        go_wp2_with fail
        refine (error_any _ (some 6) 6 (HG.out.fr HF1.out (by simp))).mono ?_
        rintro e w2 ⟨rfl, hf2⟩
        rw [show decide (numOf (some 6) = 6) = true from rfl]
        have HF2 := Lib.hid (HF1.out.trans hf2 (by simp)); clear hf2
        go_wp2
        go_ret
        exact ⟨rfl, HF2.out⟩

end Go.Proofs.YthopnlnknicgbaaDoor
