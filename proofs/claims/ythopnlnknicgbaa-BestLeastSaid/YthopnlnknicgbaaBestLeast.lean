/- BestLeast: the walk. -/
import Derived.Test.YthopnlnknicgbaaBest
import Derived.Test.YthopnlnknicgbaaServed
import Derived.Test.YthopnlnknicgbaaLruFault
namespace Go.Proofs.Ythopnlnknicgbaa
open Go.RowKit

set_option maxRecDepth 100000 in
set_option maxHeartbeats 2000000 in
theorem bestLeast_any (w : World) (a : Option Addr) (m c : Nat) (kf : Nat → Int) (hv : RdF w (.slice a m c) m (fun j => .int .i64 (kf j))) (n : Int) (b : Option Addr) (q d : Nat) (pf : Nat → Int) (hu : RdF w (.slice b q d) q (fun j => .int .i64 (pf j))) :
    Calls Try.prog 7 #[.slice a m c, .int .i64 n, .slice b q d] w fun e w' => e = .returned (.bool true) ∧ Fr [] w w' := by
  have HV := Lib.hid hv; clear hv
  have HU := Lib.hid hu; clear hu
  go_enter Try.func7, Try.ntmps7
  go_wp2_with fail
  refine (planned_any _).mono ?_
  rintro e w0 ⟨rfl, hf0⟩
  have HF0 := Lib.hid hf0; clear hf0
  by_cases hm : 100 < m
  · go_wp2
    go_ret
    exact ⟨rfl, HF0.out⟩
  by_cases hok : BOk n
  · unfold BOk at hok
    obtain ⟨N, rfl⟩ : ∃ N : Nat, n = (N : Int) := ⟨n.toNat, by omega⟩
    have hN : 1 ≤ N ∧ N ≤ 64 := by omega
    clear hok
    go_wp2_with fail
    refine (best_misses _ a m c kf (HV.out.fr HF0.out (by simp)) N hN (by omega)).mono ?_
    rintro e w1 ⟨rfl, hf1⟩
    have HF1 := Lib.hid (HF0.out.trans hf1 (by simp)); clear hf1
    go_wp2_with fail
    refine (lru_misses _ a m c kf (HV.out.fr HF1.out (by simp)) N hN (by omega)).mono ?_
    rintro e w2 ⟨rfl, hf2⟩
    have HF2 := Lib.hid (HF1.out.trans hf2 (by simp)); clear hf2
    have hl := belady_told kf m N N (by omega) (Nat.le_refl _) _ _ (pag_lru kf N (by omega) m)
    have hmore := belady_told kf m (N + 1) N (by omega) (by omega) _ _ (pag_plan kf m N (by omega) m)
    have HSV := Lib.hid (fun (wx : World) (hx : Fr [] w wx) => served_any wx a m c kf b q d pf N (HV.out.fr hx (by simp)) (HU.out.fr hx (by simp)) (by omega) (by omega))
    have HLE := Lib.hid (fun S ct (hS : Pag kf N m S ct) => belady_told kf m N N (by omega) (Nat.le_refl _) S ct hS)
    have p1 : (pmi kf m N m : Int) ≤ (msc kf N m : Int) := by omega
    by_cases h64 : N = 64
    · subst h64
      clear hmore
      go_wp2_with fail
      refine (best_bad _ a m c 65 (by unfold BOk; omega)).mono ?_
      rintro e w3 ⟨rfl, hf3⟩
      have HF3 := Lib.hid (HF2.out.trans hf3 (by simp)); clear hf3
      go_wp2_with fail
      refine (HSV.out _ HF3.out).mono ?_
      rintro e w4 ⟨⟨S, ct, rfl, hS⟩, hf4⟩
      have HF4 := Lib.hid (HF3.out.trans hf4 (by simp)); clear hf4
      have hle := HLE.out S ct hS
      have p2 : (pmi kf m 64 m : Int) ≤ (ct : Int) := by omega
      clear hS
      go_wp2
      go_ret
      exact ⟨rfl, HF4.out⟩
    · have p3 : (pmi kf m (N + 1) m : Int) ≤ (pmi kf m N m : Int) := by omega
      go_wp2_with fail
      refine (best_misses _ a m c kf (HV.out.fr HF2.out (by simp)) (N + 1) (by omega) (by omega)).mono ?_
      rintro e w3 ⟨rfl, hf3⟩
      have HF3 := Lib.hid (HF2.out.trans hf3 (by simp)); clear hf3
      go_wp2_with fail
      refine (HSV.out _ HF3.out).mono ?_
      rintro e w4 ⟨⟨S, ct, rfl, hS⟩, hf4⟩
      have HF4 := Lib.hid (HF3.out.trans hf4 (by simp)); clear hf4
      have hle := HLE.out S ct hS
      have p2 : (pmi kf m N m : Int) ≤ (ct : Int) := by omega
      clear hS
      go_wp2
      go_ret
      exact ⟨rfl, HF4.out⟩
  · have HNO := Lib.hid hok; clear hok
    go_wp2_with fail
    refine (best_bad _ a m c n HNO.out).mono ?_
    rintro e w1 ⟨rfl, hf1⟩
    have HF1 := Lib.hid (HF0.out.trans hf1 (by simp)); clear hf1
    go_wp2
    go_ret
    exact ⟨rfl, HF1.out⟩

end Go.Proofs.Ythopnlnknicgbaa
