/- JumpTells: the walk. -/
import Derived.Test.YtlinembnfcdmcaaDoorJumps
import Derived.Test.YtlinembnfcdmcaaDoorInts
import Derived.Test.YtlinembnfcdmcaaDoorDoor
namespace Go.Proofs.YtlinembnfcdmcaaDoor
open Go.RowKit

set_option maxRecDepth 100000 in
set_option maxHeartbeats 2000000 in
theorem jumpTells_any (w : World) (hg : Hand w) (a : Option Addr) (m c : Nat) (kf : Nat → Int) (n : Int) (hv : RdF w (.slice a m c) m (fun j => .int .u8 (kf j))) (hf : ∀ j, j < m → 0 ≤ kf j ∧ kf j ≤ 255) (hm : m ≤ 140737488351232) :
    Calls Tryd.prog 4 #[.slice a m c, .int .i64 n] w fun e w' => e = .returned (.bool true) ∧ Fr [] w w' := by
  have HV := Lib.hid hv; clear hv
  have HK := Lib.hid hf; clear hf
  have HG := Lib.hid hg; clear hg
  by_cases hok : JOk n
  · have hok' := hok
    unfold JOk at hok'
    obtain ⟨hn1, hn2⟩ := hok'
    have HOK := Lib.hid hok; clear hok
    go_enter Tryd.func4, Tryd.ntmps4
    go_wp2_with fail
    refine (jumped_any _).mono ?_
    rintro e w1 ⟨rfl, hf1⟩
    have HF1 := Lib.hid hf1; clear hf1
    go_wp2_with fail
    refine (jumps_any _ a m c kf n (HV.out.fr HF1.out (by simp)) HK.out hm hn1 hn2).mono ?_
    rintro e w2 ⟨hf2, g2, c2, rfl, hg2, hr2⟩
    have HF2 := Lib.hid (HF1.out.trans hf2 (by simp)); clear hf2
    have hl := mvl_len kf m n.toNat
    have hl1 := hl.2 (by omega)
    have hL : (mvl kf m n.toNat).length ≤ 1000 := by omega
    have hc : w2.cell? ⟨g2, (mvl kf m n.toNat).length - 1, none⟩ = some (.int .i64 (pk kf m n.toNat)) := hr2.cell ((mvl kf m n.toNat).length - 1) (by omega)
    have HR2 := Lib.hid hr2; clear hr2
    have HL := Lib.hid (rfl : (mvl kf m n.toNat).length = (mvl kf m n.toNat).length)
    clear hl
    go_wp2_with fail
    refine (moves_any _ a m c kf n (HV.out.fr HF2.out (by simp)) HK.out hm).mono ?_
    rintro e w3 ⟨hf3, ⟨_, g3, c3, rfl, hg3, hr3⟩ | ⟨hno, _⟩⟩
    · have HF3 := Lib.hid (HF2.out.trans hf3 (by simp))
      have HR3 := Lib.hid (HR2.out.kept hf3 (by simp))
      have HQ3 := Lib.hid hr3
      clear hf3 hr3 hc
      go_wp2_with fail
      refine (error_any _ none 0 (HG.out.fr HF3.out (by simp))).mono ?_
      rintro e w4 ⟨rfl, hf4⟩
      have HF4 := Lib.hid (HF3.out.trans hf4 (by simp))
      have HR4 := Lib.hid (HR3.out.kept hf4 (by simp))
      have HQ4 := Lib.hid (HQ3.out.kept hf4 (by simp))
      clear hf4
      go_wp2_with fail
      refine (ints_any _ _ _ _ _ _ _ _ _ HQ4.out.rd HR4.out.rd (by omega) (by omega)).mono ?_
      rintro e w5 ⟨rfl, q5, rfl⟩
      have HF5 := Lib.hid (HF4.out.drewN q5)
      have he5 : (decide ((mvl kf m n.toNat).length = (mvl kf m n.toNat).length) && eqUpTo (fun i => (mvl kf m n.toNat).getD i 0) (fun i => (mvl kf m n.toNat).getD i 0) (mvl kf m n.toNat).length) = true := by
        simp [(eqUpTo_iff _ _ _).2]
      rw [he5]
      clear he5
      go_wp2_with fail
      refine (pick_any _ a m c kf n (HV.out.fr HF5.out (by simp)) HK.out hm).mono ?_
      rintro e w6 ⟨hf6, ⟨_, rfl⟩ | ⟨hno, _⟩⟩
      · have HF6 := Lib.hid (HF5.out.trans hf6 (by simp)); clear hf6
        go_wp2_with fail
        refine (error_any _ none 0 (HG.out.fr HF6.out (by simp))).mono ?_
        rintro e w7 ⟨rfl, hf7⟩
        have HF7 := Lib.hid (HF6.out.trans hf7 (by simp)); clear hf7
        go_wp2
        go_ret
        exact ⟨rfl, HF7.out⟩
      · exact absurd HOK.out hno
    · exact absurd HOK.out hno
  · have hn : n < 1 ∨ 1000 < n := by unfold JOk at hok; omega
    have HOK := Lib.hid hok; clear hok
    rcases hn with hn | hn
    all_goals
      go_enter Tryd.func4, Tryd.ntmps4
      go_wp2_with fail
      refine (jumped_any _).mono ?_
      rintro e w1 ⟨rfl, hf1⟩
      have HF1 := Lib.hid hf1; clear hf1
      go_wp2_with fail
      refine (moves_any _ a m c kf n (HV.out.fr HF1.out (by simp)) HK.out hm).mono ?_
      rintro e w3 ⟨hf3, ⟨hno, _⟩ | ⟨_, rfl⟩⟩
      · exact absurd hno HOK.out
      have HF3 := Lib.hid (HF1.out.trans hf3 (by simp)); clear hf3
      go_wp2_with fail
      refine (error_any _ (some 6) 6 (HG.out.fr HF3.out (by simp))).mono ?_
      rintro e w4 ⟨rfl, hf4⟩
      have HF4 := Lib.hid (HF3.out.trans hf4 (by simp)); clear hf4
      go_wp2_with fail
      refine (ints_any _ none none 0 0 0 0 (fun _ => 0) (fun _ => 0) (.inl ⟨rfl, rfl⟩) (.inl ⟨rfl, rfl⟩) (by omega) (by omega)).mono ?_
      rintro e w5 ⟨rfl, q5, rfl⟩
      have HF5 := Lib.hid (HF4.out.drewN q5)
      go_wp2_with fail
      refine (pick_any _ a m c kf n (HV.out.fr HF5.out (by simp)) HK.out hm).mono ?_
      rintro e w6 ⟨hf6, ⟨hno, _⟩ | ⟨_, rfl⟩⟩
      · exact absurd hno HOK.out
      have HF6 := Lib.hid (HF5.out.trans hf6 (by simp)); clear hf6
      go_wp2_with fail
      refine (error_any _ (some 6) 6 (HG.out.fr HF6.out (by simp))).mono ?_
      rintro e w7 ⟨rfl, hf7⟩
      have HF7 := Lib.hid (HF6.out.trans hf7 (by simp)); clear hf7
      go_wp2
      go_ret
      exact ⟨rfl, HF7.out⟩

end Go.Proofs.YtlinembnfcdmcaaDoor
