/- The reference's ChainFault and FirstOf. -/
import Derived.Test.YtgpfkaiinbncnaaDoorChainAll
import Derived.Test.YtgpfkaiinbncnaaDoorHeld
namespace Go.Proofs.YtgpfkaiinbncnaaDoor
open Go.RowKit

theorem rf_zero {M : Nat → Mt} {n : Nat} (h : rdFault M n = 0) : n ≤ 200 ∧ (∀ k, k < n → n1Fault (M k) = 0) ∧ fed M n = true ∧ dps M n = 1 := by
  unfold rdFault at h
  by_cases h1 : 200 < n
  · rw [if_pos h1] at h; exact absurd h (by decide)
  rw [if_neg h1] at h
  by_cases h2 : fstN M n = 0
  · rw [if_neg (by simp [h2])] at h
    by_cases h3 : fed M n = true ∧ dps M n = 1
    · refine ⟨by omega, fun k hk => ?_, h3.1, h3.2⟩
      by_cases h4 : fstN M (k + 1) = 0
      · simp only [fstN] at h4
        split at h4
        · exact h4
        · contradiction
      · have := fstN_keep (M := M) (i := k + 1) (n := n) (by omega) h4
        rw [h2] at this
        exact absurd this.symm h4
    · rw [if_neg h3] at h; exact absurd h (by decide)
  · rw [if_pos h2] at h; exact absurd h h2

theorem Rl.Ok.pts {W : World} {r : Rl} (h : r.Ok W) : Pts W r.a r.n r.c r.M := ⟨h.rd, h.ok, h.hc⟩

set_option maxHeartbeats 4000000 in
set_option maxRecDepth 100000 in
theorem chainFault_any (W : World) (a : Option Addr) (n c : Nat) (R : Nat → Rl) (h : Rls W a n c R) :
    Calls Tryd.prog 36 #[.slice a n c] W fun e w' => e = .returned (.tuple #[.int .i64 (chI R n), .int .i64 (chZ R n)]) ∧ Fr [] W w' := by
  have hc := h.hc
  unfold maxLen at hc
  by_cases h50 : 50 < n
  · have HI := Lib.hid (show chI R n = 0 by unfold chI; rw [if_pos h50])
    have HZ := Lib.hid (show chZ R n = 7 by unfold chZ; rw [if_pos h50])
    clear h
    go_enter Tryd.func36, Tryd.ntmps36
    go_wp2
    go_ret2
    exact ⟨by rw [HI.out, HZ.out]; rfl, Fr.refl _ _⟩
  have HI := Lib.hid (show chI R n = if ffst (bd R) n < n then (ffst (bd R) n : Int) else 0 by unfold chI; rw [if_neg h50])
  have HZ := Lib.hid (show chZ R n = if ffst (bd R) n < n then rf (R (ffst (bd R) n)) else 0 by unfold chZ; rw [if_neg h50])
  have hn : n ≤ 50 := by omega
  clear h50 hc
  have HH := Lib.hid h; clear h
  generalize chI R n = I at *
  generalize chZ R n = Z at *
  go_enter Tryd.func36, Tryd.ntmps36
  go_wp2
  go_loopw [4] (fun vi wr => ∃ k : Nat, k ≤ n ∧ vi = .int .i64 k ∧ ffst (bd R) k = k ∧ Fr [] W wr) (fun vi _ => n - (intOf vi).toNat)
  case atStart => exact ⟨0, by omega, rfl, rfl, Fr.refl _ _⟩
  case round =>
    obtain ⟨k, hk, rfl, hff, hfr⟩ := hrel
    have HFF := Lib.hid hff; clear hff
    have HFR := Lib.hid hfr; clear hfr
    by_cases hlt : k < n
    · obtain ⟨bb, oo, cc, he, _, _, _, hcell⟩ := (HH.out.fr HFR.out).rd.shape (by omega) (by decide)
      simp only [Value.slice.injEq, true_and] at he
      obtain ⟨rfl, rfl⟩ := he
      have c0 : wr.cell? ⟨bb, oo + k * 2, none⟩ = some (.slice (R k).a (R k).n (R k).c) := hcell k 0 hlt (by decide)
      clear hcell
      have k0 : (0 : Int) ≤ (k : Int) := by omega
      have k1 : (k : Int) < (n : Int) := by omega
      have HC := Lib.hid (fun w1 (h1 : Fr [] W w1) => ruleFault_any w1 _ _ _ _ (((HH.out.ok k hlt).fr h1).pts))
      by_cases hz : rf (R k) = 0
      · have HS := Lib.hid (show ffst (bd R) (k + 1) = k + 1 by simp only [ffst]; rw [HFF.out, if_neg (by omega), if_neg (by simp [bd, hz])])
        rw [show rdFault (R k).M (R k).n = 0 from hz] at HC
        clear hz
        go_wp2_with (go_at_call 58; refine (HC.out _ HFR.out).mono ?_; rintro e wx ⟨rfl, hfx⟩)
        go_roundw
        case rel => exact ⟨k + 1, by omega, by go_num, HS.out, HFR.out.trans hfx (by simp)⟩
        case measure => simp [intOf]; omega
      · have hf := ffst_is (p := bd R) (n := n) hlt (by simp [bd, hz]) (fun j hj => ffst_below (p := bd R) (n := k) (by rw [HFF.out]; exact hj))
        rw [hf, if_pos hlt] at HI HZ
        have hz2 : (rf (R k) != 0) = true := by simpa using hz
        rw [show rdFault (R k).M (R k).n = rf (R k) from rfl] at HC
        clear hz hf
        generalize rf (R k) = z at *
        go_wp2_with (go_at_call 58; refine (HC.out _ HFR.out).mono ?_; rintro e wx ⟨rfl, hfx⟩)
        go_ret2
        exact ⟨by rw [HI.out, HZ.out]; rfl, HFR.out.trans hfx (by simp)⟩
    · obtain rfl : k = n := by omega
      rw [if_neg (by rw [HFF.out]; omega)] at HI HZ
      go_wp2
      go_ret2
      exact ⟨by rw [HI.out, HZ.out]; rfl, HFR.out⟩

set_option maxHeartbeats 8000000 in
set_option maxRecDepth 100000 in
theorem firstOf_any (W : World) (a : Option Addr) (n c : Nat) (R : Nat → Rl) (q : Qt) (h : Rls W a n c R) (hq : q.Ok W) (hz : chZ R n = 0) :
    Calls Tryd.prog 38 #[.slice a n c, .agg #[.slice q.na q.nl q.nc, .int .i64 q.ty, .int .i64 q.cl, .int .i64 q.opc, .bool q.rd, .slice q.fa q.fl q.fc]] W fun e w' => e = .returned (.int .i64 (fiI R q n)) ∧ Fr [] W w' := by
  have HI := Lib.hid (show fiI R q n = if ffst (hd R q) n < n then (ffst (hd R q) n : Int) else -1 by unfold fiI; rw [if_pos hz])
  obtain ⟨hn, hall⟩ := chZ_zero.1 hz
  have HALL := Lib.hid hall
  clear hz hall
  have HH := Lib.hid h; clear h
  have HQ := Lib.hid hq; clear hq
  generalize fiI R q n = I at *
  go_enter Tryd.func38, Tryd.ntmps38
  go_wp2
  go_loopw [5] (fun vi wr => ∃ k : Nat, k ≤ n ∧ vi = .int .i64 k ∧ ffst (hd R q) k = k ∧ Fr [] (qW W q) wr) (fun vi _ => n - (intOf vi).toNat)
  case atStart => exact ⟨0, by omega, rfl, rfl, Fr.refl _ _⟩
  case round =>
    obtain ⟨k, hk, rfl, hff, hfr⟩ := hrel
    have HFF := Lib.hid hff; clear hff
    have HFQ := Lib.hid hfr; clear hfr
    have HFR := Lib.hid (show Fr [] W wr from ((Fr.refl [] W).alloc _).trans HFQ.out (by simp))
    by_cases hlt : k < n
    · obtain ⟨bb, oo, cc, he, _, _, _, hcell⟩ := (HH.out.fr HFR.out).rd.shape (by omega) (by decide)
      simp only [Value.slice.injEq, true_and] at he
      obtain ⟨rfl, rfl⟩ := he
      have c0 : wr.cell? ⟨bb, oo + k * 2, none⟩ = some (.slice (R k).a (R k).n (R k).c) := hcell k 0 hlt (by decide)
      clear hcell
      have k0 : (0 : Int) ≤ (k : Int) := by omega
      have k1 : (k : Int) < (n : Int) := by omega
      obtain ⟨x0, x1, x2, x3, x4, x5⟩ := qbox q HFQ.out
      obtain ⟨z1, z2, z3, z4⟩ := rf_zero (HALL.out k hlt)
      have hn1 : 1 ≤ (R k).n := by
        rcases Nat.eq_zero_or_pos (R k).n with h | h
        · rw [h] at z4; exact absurd z4 (show ¬ (0 : Nat) = 1 by decide)
        · exact h
      obtain ⟨p, hp⟩ : ∃ p, (R k).n = p + 1 := ⟨(R k).n - 1, by omega⟩
      have HTOP := Lib.hid (show topB (R k).M q p = hd R q k by
        unfold topB hd rh
        rw [← hp, z4])
      have HC := Lib.hid (fun w1 (h1 : Fr [] W w1) => held_any W (R k).a (R k).n (R k).c (R k).M (HH.out.ok k hlt).pts z1 z2 q HQ.out p (by omega) (by rw [← hp]; exact z3) w1 h1)
      rw [HTOP.out] at HC
      unfold htPost at HC
      rw [hp] at HC c0
      have hp2 : p ≤ 199 := by omega
      clear z1 z2 z3 z4 hn1 HTOP hp
      have HHD := Lib.hid (rfl : hd R q k = hd R q k)
      have hw : IntKind.i64.wrap (p : Int) = (p : Int) := IntWalk.i64_in _ (by omega)
      obtain ⟨b, hb⟩ : ∃ b, hd R q k = b := ⟨_, rfl⟩
      rw [hb] at HC
      have HB := Lib.hid hb; clear hb HHD
      generalize (R k).a = ra at *
      generalize (R k).c = rc at *
      go_upto_region 4 with fail
      go_cut [25] (fun v wx => v = .bool b ∧ Fr [] (qW W q) wx)
      case first =>
        have HFD := Lib.hid (show Fr [] (qW W q) wr.drew from HFQ.out.drew)
        have HFD2 := Lib.hid (show Fr [] W wr.drew from HFR.out.drew)
        go_region_held3 (fun w4 => (w4.cell? ⟨W.heap.size, 0, none⟩ = some (.slice q.na q.nl q.nc)) ∧ (w4.cell? ⟨W.heap.size, 1, none⟩ = some (.int .i64 q.ty)) ∧ (w4.cell? ⟨W.heap.size, 2, none⟩ = some (.int .i64 q.cl)) ∧ (w4.cell? ⟨W.heap.size, 3, none⟩ = some (.int .i64 q.opc)) ∧ (w4.cell? ⟨W.heap.size, 4, none⟩ = some (.bool q.rd)) ∧ (w4.cell? ⟨W.heap.size, 5, none⟩ = some (.slice q.fa q.fl q.fc)) ∧ (w4.cell? ⟨bb, oo + k * 2, none⟩ = some (.slice ra (p + 1) rc)))
          (first | exact ⟨x0, x1, x2, x3, x4, x5, c0⟩ | (obtain ⟨y0, y1, y2, y3, y4, y5⟩ := qbox q HX.out; exact ⟨y0, y1, y2, y3, y4, y5, HC0.out⟩) | fail)
          (first
            | (go_at_call 60; (with_reducible refine (HC.out _ HFD2.out).mono ?_); rintro e wx ⟨rfl, hfx⟩; have HX := Lib.hid (HFD.out.trans hfx (by simp)); have HC0 := Lib.hid (hfx.cell (p := ⟨bb, oo + k * 2, none⟩) (v := .slice ra (p + 1) rc) c0 (by simp)))
            | fail)
        all_goals (go_wp2_with fail; go_meet)
        all_goals exact ⟨rfl, HX.out⟩
      case rest =>
        obtain ⟨rfl, hfc⟩ := hcut
        have HFC := Lib.hid hfc
        clear hfc x0 x1 x2 x3 x4 x5 c0
        cases b
        · have HS := Lib.hid (show ffst (hd R q) (k + 1) = k + 1 by simp only [ffst]; rw [HFF.out, if_neg (by omega), if_neg (by rw [HB.out]; decide)])
          go_wp2
          go_roundw
          case rel => exact ⟨k + 1, by omega, by go_num, HS.out, HFC.out⟩
          case measure => simp [intOf]; omega
        · have hf := ffst_is (p := hd R q) (n := n) hlt HB.out (fun j hj => ffst_below (p := hd R q) (n := k) (by rw [HFF.out]; exact hj))
          rw [hf, if_pos hlt] at HI
          clear hf
          go_wp2
          go_ret
          exact ⟨by rw [HI.out]; rfl, ((Fr.refl [] W).alloc _).trans HFC.out (by simp)⟩
    · obtain rfl : k = n := by omega
      rw [if_neg (by rw [HFF.out]; omega)] at HI
      go_wp2
      go_ret
      exact ⟨by rw [HI.out]; rfl, HFR.out⟩

end Go.Proofs.YtgpfkaiinbncnaaDoor
