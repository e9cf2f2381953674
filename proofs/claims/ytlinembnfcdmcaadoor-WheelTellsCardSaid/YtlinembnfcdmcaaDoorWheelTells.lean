/- WheelTells: the walk. -/
import Derived.Test.YtlinembnfcdmcaaDoorDoor
import Derived.Test.YtlinembnfcdmcaaDoorTurned
import Derived.Test.YtlinembnfcdmcaaDoorInts
namespace Go.Proofs.YtlinembnfcdmcaaDoor
open Go.RowKit

set_option maxRecDepth 100000 in
set_option maxHeartbeats 2000000 in
theorem wheelTells_any (W : World) (hg : Hand W) (a : Option Addr) (n c : Nat) (f : Nat → Int) (x : Int) (hr : RdF W (.slice a n c) n (fun j => .int .i64 (f j))) (hs : n * 8 ≤ 140737488351232) :
    Calls Tryd.prog 8 #[.slice a n c, .int .i64 x] W fun e w' => e = .returned (.bool true) ∧ Fr [] W w' := by
  have HV := Lib.hid hr; clear hr
  have HG := Lib.hid hg; clear hg
  go_enter Tryd.func8, Tryd.ntmps8
  go_wp2_with fail
  refine (wheeled_any _).mono ?_
  rintro e w1 ⟨rfl, hf1⟩
  have HF1 := Lib.hid hf1; clear hf1
  go_wp2_with fail
  refine (weightsFault_any _ a n c f (HV.out.fr HF1.out (by simp)) (by omega)).mono ?_
  rintro e w2 ⟨rfl, q2, rfl⟩
  have HF2 := Lib.hid (HF1.out.drewN q2)
  go_wp2_with fail
  refine (wheel_new_any _ _ n f (HV.out.fr HF2.out (by simp)) (by unfold maxLen; omega)).mono ?_
  rintro e w3 ⟨hf3, ⟨hk, hn0, hn40, hws, p, gw, go, cw, co, rfl, hp, hgw, hgo, hW⟩ | ⟨hk, rfl⟩⟩
  · have HF3 := Lib.hid (HF2.out.trans hf3 (by simp))
    have hsz := HF2.out.size
    have hlow : W.heap.size ≤ go := by omega
    have HW := Lib.hid hW
    have HWS := Lib.hid hws
    clear hf3 hW hws hp hgw hgo
    rw [hk]
    clear hk
    go_wp2_with fail
    refine (error_any _ none 0 (HG.out.fr HF3.out (by simp))).mono ?_
    rintro e w4 ⟨rfl, hf4⟩
    rw [show decide (numOf none = 0) = true from rfl]
    have HW4 := Lib.hid (HW.out.kept hf4 (by simp))
    have HF4 := Lib.hid (HF3.out.trans hf4 (by simp)); clear hf4
    by_cases hx : 100 < x
    · go_wp2
      go_ret
      exact ⟨rfl, HF4.out⟩
    have hm := run_mk (P := Tryd.prog) 22 3 infoInt Tryd.underlying22 n (by omega) (by unfold maxLen; omega)
    go_wp2
    clear hm
    have hr0 := row_mk w4 3 (.int .i64 0) rfl n (by unfold maxLen; omega)
    have HW5 := Lib.hid (HW4.out.kept ((Fr.refl [] w4).alloc (.cells (madeCells (Value.int .i64 0).cells n) 3)) (by simp))
    have HF5 := Lib.hid (HF4.out.alloc (.cells (madeCells (Value.int .i64 0).cells n) 3))
    have hlt4 := HW4.out.lt
    go_loopw [10, 11] (fun o i wr => ∃ (t g cap : Nat), i = .int .i64 t ∧ (t = 0 ∨ (t : Int) ≤ x) ∧ o = .slice (some ⟨g, 0, none⟩) n cap ∧ RowI wr g n cap (ost f n (wsum f n) t) ∧ Wheel wr p gw go n cw co f (ost f n (wsum f n) t) (wsum f n) ∧ g ≠ go ∧ Fr [] W wr) (fun _ i _ => x.toNat - (intOf i).toNat)
    case atStart => exact ⟨0, _, _, rfl, .inl rfl, rfl, hr0, HW5.out, by omega, HF5.out⟩
    case round =>
      clear hr0 hlt4
      obtain ⟨t, g, cap, rfl, ht, rfl, hro, hWt, hgg, hf⟩ := hrel
      have HR := Lib.hid hro; clear hro
      have HWt := Lib.hid hWt; clear hWt
      have HF := Lib.hid hf; clear hf
      by_cases hlt : (t : Int) < x
      · have ht1 : t ≤ 100 := by omega
        have hws1 := wsum_le f n HWS.out
        have hbd : ∀ j, j < n → 1 ≤ f j ∧ f j ≤ 1000 ∧ -1000000000 ≤ ost f n (wsum f n) t j ∧ ost f n (wsum f n) t j ≤ 1000000000 := fun j hj => by
          have h2 := ost_bd f n (wsum f n) 40000 (by omega) (fun j hj => by have := HWS.out j hj; omega) t j hj
          have h3 := HWS.out j hj
          have h4 : (t : Int) * 40000 ≤ 4000000 := by omega
          omega
        have HBD := Lib.hid hbd; clear hbd hws1
        have hltg := HWt.out.lt
        go_wp2_with fail
        refine (turned_any _ a (some ⟨g, 0, none⟩) n c cap f (ost f n (wsum f n) t) (HV.out.fr HF.out (by simp)) HR.out.rd hn0 hn40 HBD.out).mono ?_
        rintro e w6 ⟨v6, rfl, ho6, hf6⟩
        obtain ⟨g6, cap6, e6, hg6, hr6⟩ := ho6.row hn0
        subst e6
        have HR6 := Lib.hid (show RowI w6 g6 n cap6 (ost f n (wsum f n) (t + 1)) from hr6)
        have HW6 := Lib.hid (HWt.out.kept hf6 (by simp))
        have HF6 := Lib.hid (HF.out.trans hf6 (by simp))
        have hne6 : g6 ≠ go := by omega
        clear ho6 hr6 hf6
        go_wp2_with fail
        refine (wheel_turn _ p gw go n cw co f t HW6.out hn0 hn40 HWS.out (by omega)).mono ?_
        rintro e w7 ⟨rfl, hW7, hf7⟩
        rw [show trn f n (wsum f n) t = bst (fun j => ost f n (wsum f n) t j + f j) n from rfl]
        generalize bst (fun j => ost f n (wsum f n) t j + f j) n = B at *
        have HR7 := Lib.hid (HR6.out.kept hf7 (by simpa using hne6))
        have HW7 := Lib.hid hW7
        have HF7 := Lib.hid (HF6.out.trans hf7 (fun y hy => .inr (by simp at hy; omega)))
        clear hW7 hf7
        have hBB : ((B : Int) == (B : Int)) = true := by simp
        go_wp2_with fail
        refine (wheel_owed _ p gw go n cw co f _ _ HW7.out (by omega)).mono ?_
        rintro e w8 ⟨v8, rfl, ho8, hf8⟩
        obtain ⟨g8, cap8, e8, hg8, hr8⟩ := ho8.row hn0
        subst e8
        have HR8 := Lib.hid (HR7.out.kept hf8 (by simp))
        have HW8 := Lib.hid (HW7.out.kept hf8 (by simp))
        have HQ8 := Lib.hid hr8
        have HF8 := Lib.hid (HF7.out.trans hf8 (by simp))
        clear ho8 hr8 hf8
        go_wp2_with fail
        refine (ints_any _ _ _ n n _ _ (ost f n (wsum f n) (t + 1)) (ost f n (wsum f n) (t + 1)) HQ8.out.rd HR8.out.rd (by omega) (by omega)).mono ?_
        rintro e w9 ⟨rfl, q9, rfl⟩
        have he9 : (decide (n = n) && eqUpTo (ost f n (wsum f n) (t + 1)) (ost f n (wsum f n) (t + 1)) n) = true := by
          simp [(eqUpTo_iff _ _ _).2]
        rw [he9]
        clear he9
        go_wp2
        go_roundw
        case rel => exact ⟨t + 1, g6, cap6, by go_num, .inr (by omega), rfl, HR8.out.kept ((Fr.refl [] _).drewN q9) (by simp), HW8.out.drewN q9, hne6, HF8.out.drewN q9⟩
        case measure => simp [intOf]; omega
      · go_wp2
        go_ret
        exact ⟨rfl, HF.out⟩
  · have HF3 := Lib.hid (HF2.out.trans hf3 (by simp))
    clear hf3
    generalize wfault n f = K at *
    go_wp2_with fail
    refine (error_any _ (some K) K (HG.out.fr HF3.out (by simp))).mono ?_
    rintro e w4 ⟨rfl, hf4⟩
    rw [show decide (numOf (some K) = K) = true by simp [numOf]]
    have HF4 := Lib.hid (HF3.out.trans hf4 (by simp)); clear hf4
    have hkz : (K == 0) = false := by simpa using hk
    go_wp2
    go_ret
    exact ⟨rfl, HF4.out⟩

end Go.Proofs.YtlinembnfcdmcaaDoor
