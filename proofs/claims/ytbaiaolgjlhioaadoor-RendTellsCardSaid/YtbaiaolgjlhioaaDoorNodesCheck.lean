/- ring.Check. -/
import Derived.Test.YtbaiaolgjlhioaaDoorNodes
namespace Go.Proofs.YtbaiaolgjlhioaaDoor
open Go.RowKit Go.Maps

set_option maxHeartbeats 4000000 in
set_option maxRecDepth 100000 in
theorem check_any (w : World) (a : Option Addr) (n c : Nat) (p : Nat → Int × Int) (hv : RdP w (.slice a n c) n p) :
    Calls Tryd.prog 20 #[.slice a n c] w fun e w' => e = .returned (erV (nfault p n)) ∧ Fr [] w w' := by
  have HV := Lib.hid hv; clear hv
  have hmm := @run_makeMap Tryd.prog
  go_enter Tryd.func20, Tryd.ntmps20
  by_cases h40 : 40 < n
  · have e : nfault p n = 7 := by unfold nfault; rw [if_pos h40]
    have HE := Lib.hid e; clear e
    go_wp2
    go_ret
    exact ⟨by rw [HE.out]; rfl, Fr.refl _ _⟩
  have hm0 := World.ownsMap_made w Tryd.prog 3 (plainElem (H := Unit) Tryd.prog 3)
  have HM0 := Lib.hid hm0; clear hm0
  have HF0 := Lib.hid ((Fr.refl [] w).alloc (.map #[] 0))
  go_wp2
  generalize w.alloc (.map #[] 0) = w1 at *
  clear hmm
  go_loopw [15] (fun i wr => ∃ (k : Nat) (D : DataW Unit), k ≤ n ∧ i = .int .i64 k ∧ nfk p k = 0 ∧ wr.ownsMap Tryd.prog 3 (plainElem Tryd.prog 3) w.heap.size k D ∧ (∀ x, Maps.has D (.int .i64 x) = metN p x k) ∧ Fr [] w wr) (fun i _ => n - (intOf i).toNat)
  case atStart => exact ⟨0, _, by omega, rfl, rfl, HM0.out, fun x => rfl, HF0.out⟩
  case round =>
    clear HM0 HF0
    obtain ⟨k, D, hk, rfl, hnf, hown, hD, hf⟩ := hrel
    have HNF := Lib.hid hnf; clear hnf
    have HD := Lib.hid hD; clear hD
    have HF := Lib.hid hf; clear hf
    have HOWN := Lib.hid hown; clear hown
    by_cases hlt : k < n
    · obtain ⟨b, o, cap', he, hnc, hcm, hbw, hc⟩ := HV.out.shape (by omega)
      simp only [Value.slice.injEq, true_and] at he
      obtain ⟨rfl, rfl⟩ := he
      obtain ⟨k0, k1⟩ := hc k hlt
      have c0 := HF.out.cell k0 (by simp)
      have c1 := HF.out.cell k1 (by simp)
      clear hc k0 k1
      have hfw := (Fr.refl [] wr).alloc (.cells #[.int .i64 (p k).1, .int .i64 (p k).2] 24)
      have HFW := Lib.hid (HF.out.trans hfw (by simp)); clear hfw
      by_cases hr : NRange (p k)
      case neg =>
        have e : nfault p n = 6 := by
          have e1 : nfk p (k + 1) = 6 := by simp only [nfk]; rw [if_neg (by simpa using HNF.out), if_pos hr]
          unfold nfault
          rw [if_neg h40, nfk_of p (k + 1) n (by rw [e1]; decide) (by omega), e1, if_pos (by decide)]
        have HE := Lib.hid e; clear e
        unfold NRange at hr
        by_cases h1 : (p k).1 < 0
        · go_wp2
          go_ret
          exact ⟨by rw [HE.out]; rfl, HFW.out⟩
        by_cases h2 : 2147483647 < (p k).1
        · go_wp2
          go_ret
          exact ⟨by rw [HE.out]; rfl, HFW.out⟩
        by_cases h3 : (p k).2 < 1
        · go_wp2
          go_ret
          exact ⟨by rw [HE.out]; rfl, HFW.out⟩
        have h4 : 16 < (p k).2 := by omega
        clear hr
        go_wp2
        go_ret
        exact ⟨by rw [HE.out]; rfl, HFW.out⟩
      have HR := Lib.hid hr
      obtain ⟨r1, r2, r3, r4⟩ := hr
      have HOW2 := Lib.hid (HOWN.out.alloc (.cells #[.int .i64 (p k).1, .int .i64 (p k).2] 24))
      by_cases hmt : metN p (p k).1 k = true
      · have e : nfault p n = 10 := by
          have e1 : nfk p (k + 1) = 10 := by simp only [nfk]; rw [if_neg (by simpa using HNF.out), if_neg (by simpa using HR.out), if_pos hmt]
          unfold nfault
          rw [if_neg h40, nfk_of p (k + 1) n (by rw [e1]; decide) (by omega), e1, if_pos (by decide)]
        have HE := Lib.hid e; clear e
        have hhas : Maps.has D (.int .i64 (p k).1) = true := (HD.out _).trans hmt
        clear hmt
        go_wp2_with (at_lookup; (refine wpList_lookup_own_ok_int _ rfl _ _ 65 rfl 3 3 .i64 maplaw Tryd.underlying65 Tryd.underlying3 (zeroInt _) w.heap.size k _ rfl HOW2.out _ _ rfl (keyOf_int_mk Tryd.underlying3 (WalkArith.wf_i64 (by omega))) ?_); intro cc hat hwc)
        go_ret
        exact ⟨by rw [HE.out]; rfl, HFW.out⟩
      · have hhas : Maps.has D (.int .i64 (p k).1) = false := (HD.out _).trans (by simpa using hmt)
        have hnf1 : nfk p (k + 1) = 0 := by simp only [nfk]; rw [if_neg (by simpa using HNF.out), if_neg (by simpa using HR.out), if_neg hmt]
        have HNF1 := Lib.hid hnf1
        clear hmt hnf1
        go_wp2_with (first
          | (at_lookup; (refine wpList_lookup_own_ok_int _ rfl _ _ 65 rfl 3 3 .i64 maplaw Tryd.underlying65 Tryd.underlying3 (zeroInt _) w.heap.size k _ rfl HOW2.out _ _ rfl (keyOf_int_mk Tryd.underlying3 (WalkArith.wf_i64 (by omega))) ?_); intro cc hat hwc)
          | (at_mapUpdate; refine wpList_mapUpdate_own _ rfl _ _ _ 65 rfl 3 3 maplaw Tryd.underlying65 _ w.heap.size k _ rfl HOW2.out (by unfold maxLen; omega) _ _ _ rfl rfl (keyOf_int_mk Tryd.underlying3 (WalkArith.wf_i64 (by omega))) _ [] (plainElem_int Tryd.underlying3 (WalkArith.wf_i64 (by omega))) ?_; intro w2 hown2 hgr; have HOW3 := Lib.hid hown2; have HGR := Lib.hid hgr; clear hown2 hgr))
        go_roundw
        case rel => exact ⟨k + 1, _, by omega, by go_num, HNF1.out, HOW3.out, fun x => by
            by_cases hx : x = (p k).1
            · subst hx
              rw [has_put_same HOWN.out.isMap (by simp [WideAt.IsKeyLit])]
              simp [metN]
            · rw [has_put_other (by simpa using hx), HD.out x]
              simp [metN, Ne.symm hx], HFW.out.trans (Fr.of_grown HGR.out [w.heap.size] (fun q hq => .inl (by cases hq; simp))) (fun y hy => .inr (by simp at hy; omega))⟩
        case measure => simp [intOf]; omega
    · obtain rfl : k = n := by omega
      by_cases h0 : k = 0
      · have e : nfault p k = 9 := by unfold nfault; rw [if_neg h40, if_neg (by simpa using HNF.out), if_pos h0]
        have HE := Lib.hid e; clear e
        subst h0
        go_wp2
        go_ret
        exact ⟨by rw [HE.out]; rfl, HF.out⟩
      · have e : nfault p k = 0 := by unfold nfault; rw [if_neg h40, if_neg (by simpa using HNF.out), if_neg h0]
        have HE := Lib.hid e; clear e
        have hk0 : (k == 0) = false := by simpa using h0
        go_wp2
        go_ret
        exact ⟨by rw [HE.out]; rfl, HF.out⟩

end Go.Proofs.YtbaiaolgjlhioaaDoor
