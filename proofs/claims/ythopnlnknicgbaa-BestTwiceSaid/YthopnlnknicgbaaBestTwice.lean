/- BestTwice: the walk. -/
import Derived.Test.YthopnlnknicgbaaBest
import Derived.Test.YthopnlnknicgbaaLruFault
import Derived.IntWalk
namespace Go.Proofs.Ythopnlnknicgbaa
open Go.RowKit

set_option maxRecDepth 100000 in
set_option maxHeartbeats 2000000 in
theorem bestTwice_any (w : World) (a : Option Addr) (m c : Nat) (kf : Nat → Int) (hv : RdF w (.slice a m c) m (fun j => .int .i64 (kf j))) (n h : Int) (hnb : n ≤ 9223372036854775807) :
    Calls Try.prog 8 #[.slice a m c, .int .i64 n, .int .i64 h] w fun e w' => e = .returned (.bool true) ∧ Fr [] w w' := by
  have HV := Lib.hid hv; clear hv
  go_enter Try.func8, Try.ntmps8
  go_wp2_with fail
  refine (planned_any _).mono ?_
  rintro e w0 ⟨rfl, hf0⟩
  have HF0 := Lib.hid hf0; clear hf0
  by_cases h1 : h < 1
  · go_wp2
    go_ret
    exact ⟨rfl, HF0.out⟩
  by_cases h2 : n < h
  · go_wp2
    go_ret
    exact ⟨rfl, HF0.out⟩
  by_cases hm : 200 < m
  · go_wp2
    go_ret
    exact ⟨rfl, HF0.out⟩
  by_cases hn : 64 < n
  · have hno : ¬ LruOk n := by unfold LruOk; omega
    have HNO := Lib.hid hno; clear hno
    go_wp2_with fail
    refine (misses_bad _ a m c n HNO.out).mono ?_
    rintro e w1 ⟨rfl, hf1⟩
    have HF1 := Lib.hid (HF0.out.trans hf1 (by simp)); clear hf1
    by_cases hh : 64 < h
    · have hno2 : ¬ BOk h := by unfold BOk; omega
      have HNO2 := Lib.hid hno2; clear hno2
      go_wp2_with fail
      refine (best_bad _ a m c h HNO2.out).mono ?_
      rintro e w2 ⟨rfl, hf2⟩
      have HF2 := Lib.hid (HF1.out.trans hf2 (by simp)); clear hf2
      go_wp2
      go_ret
      exact ⟨rfl, HF2.out⟩
    · obtain ⟨H, rfl⟩ : ∃ H : Nat, h = (H : Int) := ⟨h.toNat, by omega⟩
      go_wp2_with fail
      refine (best_misses _ a m c kf (HV.out.fr HF1.out (by simp)) H (by omega) (by omega)).mono ?_
      rintro e w2 ⟨rfl, hf2⟩
      have HF2 := Lib.hid (HF1.out.trans hf2 (by simp)); clear hf2
      go_wp2
      go_ret
      exact ⟨rfl, HF2.out⟩
  · obtain ⟨N, rfl⟩ : ∃ N : Nat, n = (N : Int) := ⟨n.toNat, by omega⟩
    obtain ⟨H, rfl⟩ : ∃ H : Nat, h = (H : Int) := ⟨h.toNat, by omega⟩
    have hlaw := twice_told kf m N H (by omega) (by omega)
    have hl := msc_le kf N m
    have hp := pmi_le kf m H m
    go_wp2_with fail
    refine (lru_misses _ a m c kf (HV.out.fr HF0.out (by simp)) N (by omega) (by omega)).mono ?_
    rintro e w1 ⟨rfl, hf1⟩
    have HF1 := Lib.hid (HF0.out.trans hf1 (by simp)); clear hf1
    go_wp2_with fail
    refine (best_misses _ a m c kf (HV.out.fr HF1.out (by simp)) H (by omega) (by omega)).mono ?_
    rintro e w2 ⟨rfl, hf2⟩
    have HF2 := Lib.hid (HF1.out.trans hf2 (by simp)); clear hf2
    generalize msc kf N m = l at *
    generalize pmi kf m H m = p at *
    go_upto_region 10 with fail
    go_cut [12] (fun v wx => v = .int .i64 ((N + 1 - H : Nat) : Int) ∧ wx = w2)
    case first =>
      have ek : (N : Int) - (H : Int) + 1 = ((N + 1 - H : Nat) : Int) := by omega
      have EK := Lib.hid ek; clear ek
      go_wp2_with fail
      go_meet
      exact ⟨by rw [← EK.out], by trivial⟩
    case rest =>
      obtain ⟨rfl, hwc⟩ := hcut
      replace hwc := hwc.symm
      subst hwc
      have hK : N + 1 - H ≤ 64 := by omega
      generalize N + 1 - H = K at *
      have b1 : l * K ≤ 200 * 64 := Nat.mul_le_mul (by omega) hK
      have b2 : N * p ≤ 64 * 200 := Nat.mul_le_mul (by omega) (by omega)
      have b3 : N * K ≤ 64 * 64 := Nat.mul_le_mul (by omega) hK
      have q1 : IntKind.i64.wrap ((l : Int) * (K : Int)) = ((l * K : Nat) : Int) := by rw [← Int.natCast_mul]; exact IntWalk.i64_in _ (by omega)
      have q2 : IntKind.i64.wrap ((N : Int) * (p : Int)) = ((N * p : Nat) : Int) := by rw [← Int.natCast_mul]; exact IntWalk.i64_in _ (by omega)
      have q3 : IntKind.i64.wrap ((N : Int) * (K : Int)) = ((N * K : Nat) : Int) := by rw [← Int.natCast_mul]; exact IntWalk.i64_in _ (by omega)
      generalize l * K = P1 at *
      generalize N * p = P2 at *
      generalize N * K = P3 at *
      have hfin : (P1 : Int) ≤ (P2 : Int) + (P3 : Int) := by omega
      go_wp2
      go_ret
      exact ⟨rfl, HF2.out⟩

end Go.Proofs.Ythopnlnknicgbaa
