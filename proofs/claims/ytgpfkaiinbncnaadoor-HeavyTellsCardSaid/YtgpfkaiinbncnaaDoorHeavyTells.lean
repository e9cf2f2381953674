/- HeavyTells: the walk. -/
import Derived.Test.YtgpfkaiinbncnaaDoorHeavyOne
import Derived.Test.YtgpfkaiinbncnaaDoorHeavyRefW
import Derived.Test.YtgpfkaiinbncnaaDoorHeavySeen
import Derived.Test.YtgpfkaiinbncnaaDoorDoor
import Derived.BigQuiet
namespace Go.Proofs.YtgpfkaiinbncnaaDoor
open Go.RowKit Go.Maps

set_option maxRecDepth 100000 in
set_option maxHeartbeats 8000000 in
theorem heavyTells_any (w : World) (hg : Hand w) (K : Int) (a : Option Addr) (n c : Nat) (kf : Nat → Int) (hv : RdF w (.slice a n c) n (fun j => .int .i64 (kf j))) (hw : ∀ j, j < n → -9223372036854775808 ≤ kf j ∧ kf j ≤ 9223372036854775807) :
    Calls Tryd.prog 5 #[.int .i64 K, .slice a n c] w fun e w' => e = .returned (.bool true) ∧ Fr [] w w' := by
  have HV := Lib.hid hv; clear hv
  have HG := Lib.hid hg; clear hg
  have HWF := Lib.hid hw; clear hw
  go_enter Tryd.func5, Tryd.ntmps5
  go_wp2_with fail
  refine (heavyOne_any _).mono ?_
  rintro e w1 ⟨rfl, hf1⟩
  have HF1 := Lib.hid hf1; clear hf1
  by_cases hk : 1 ≤ K ∧ K ≤ 64
  · obtain ⟨k, rfl⟩ : ∃ k : Nat, K = (k : Int) := ⟨K.toNat, by omega⟩
    have hk1 : 1 ≤ k := by omega
    have hk64 : k ≤ 64 := by omega
    go_wp2_with fail
    refine (heavyNew_ok w1 k hk1 hk64).mono ?_
    rintro e w2 ⟨rfl, hv2, hf2⟩
    have HH2 := Lib.hid hv2; clear hv2
    have HF2 := Lib.hid (HF1.out.trans hf2 (S := []) (by simp)); clear hf2 hk
    have hs1 := HF1.out.size
    obtain ⟨b, hb⟩ : ∃ b, w1.heap.size = b := ⟨_, rfl⟩
    obtain ⟨p, hp⟩ : ∃ p, w1.heap.size + 1 = p := ⟨_, rfl⟩
    rw [hp] at HH2 ⊢
    rw [hb] at HH2 hs1
    have hpb : w.heap.size ≤ p := by omega
    clear hp hb
    have hs2 := HF2.out.size
    have hpl := lt_of_blk HH2.out.blk
    have hbl := World.ownsMap.lt HH2.out.own
    by_cases hn : n ≤ 80
    · have e2 : decide ((80 : Int) < (n : Int)) = false := by simp; omega
      go_wp2
      clear e2
      go_loopw [9, 10] (fun v j wr => ∃ t : Nat, t ≤ n ∧ j = .int .i64 t ∧ Hv wr p b k t (stH kf k t) ∧ OwnP wr w2.heap.size 67 v (stH kf k t).length (lq (stH kf k t)) ∧ Fr [] w wr ∧ w2.heap.size ≤ wr.heap.size) (fun _ j _ => n - (intOf j).toNat)
      case atStart => exact ⟨0, by omega, rfl, HH2.out, OwnP.nil _ _ _ _, HF2.out, Nat.le_refl _⟩
      case round =>
        clear HH2 HF2
        obtain ⟨t, ht, rfl, hh, ho, hf, hsz⟩ := hrel
        have HH := Lib.hid hh; clear hh
        have HO := Lib.hid ho; clear ho
        have HF := Lib.hid hf; clear hf
        by_cases hlt : t < n
        · obtain ⟨wo, hwo⟩ : ∃ wo : World, wo = wr := ⟨_, rfl⟩
          rw [← hwo] at HH HO HF hsz ⊢
          clear hwo wr
          obtain ⟨b1, o1, c1, he1, _, _, _, hc1⟩ := HV.out.shape (by omega)
          simp only [Value.slice.injEq, true_and] at he1
          obtain ⟨rfl, rfl⟩ := he1
          have k1a := hc1 t hlt
          have k1 := HF.out.cell k1a (by simp)
          have HXW := Lib.hid (HWF.out t hlt)
          clear hc1
          have k0 : (0 : Int) ≤ (t : Int) := by omega
          have k3 : (t : Int) < (n : Int) := by omega
          obtain ⟨a0, c0, hv0⟩ := HO.out.rd.slice
          have HINV := Lib.hid HH.out.inv
          rw [hv0] at HO ⊢
          clear hv0
          go_wp2_with fail
          refine (heavyRef_any wo a0 c0 k t (stH kf k t) (kf t) HO.out.rd hk64 (by omega) HINV.out).mono ?_
          rintro e w3 ⟨a3, c3, rfl, h3, f3⟩
          have hs3 := f3.size
          have HO3 := Lib.hid h3
          have HH3 := Lib.hid (HH.out.fr f3 (by simp) (by simp))
          have HF3 := Lib.hid (HF.out.trans f3 (S := []) (by simp))
          have k2 := HF3.out.cell k1a (by simp)
          clear h3 f3 k1
          go_wp2_with fail
          refine (heavyAdd_any w3 p b k t _ HH3.out (by omega) (kf t) HXW.out).mono ?_
          rintro e w4 ⟨rfl, h4, f4⟩
          have HH4 := Lib.hid h4
          have HO4 := Lib.hid (HO3.out.kept f4 (fun g hg hm => by
            have := HO3.out.ge g (by rw [hg]; simp)
            simp at hm
            omega))
          have HF4 := Lib.hid (HF3.out.trans f4 (S := []) (by simp; omega))
          have hs4 := f4.size
          clear h4 f4 HO3 HH3 k2
          have hm7 : (kp (stH kf k t) k (kf t)).length ≤ k := HH4.out.inv.len
          have HST := Lib.hid (show stH kf k (t + 1) = kp (stH kf k t) k (kf t) from rfl)
          generalize kp (stH kf k t) k (kf t) = M at *
          go_wp2_with fail
          refine (heavyKept_any w4 p b k (t + 1) M HH4.out).mono ?_
          rintro e w5 ⟨a5, c5, rfl, h5, f5⟩
          have HO5 := Lib.hid h5
          have HO6 := Lib.hid (HO4.out.kept f5 (by simp))
          have HH5 := Lib.hid (HH4.out.fr f5 (by simp) (by simp))
          have HF5 := Lib.hid (HF4.out.trans f5 (S := []) (by simp))
          have hs5 := f5.size
          clear h5 f5 HO4 HH4 HO
          have hmm : (M.length == M.length) = true := by simp
          go_wp2_with (first
            | (go_at_call 34; refine (heavySeen_any w5 p b k (t + 1) M HH5.out).mono ?_; rintro e w6 ⟨rfl, rfl⟩)
            | go_in)
          go_loopw [12] (fun j wx => ∃ u : Nat, u ≤ M.length ∧ j = .int .i64 u ∧ Fr [] w5 wx) (fun j _ => M.length - (intOf j).toNat)
          case atStart => exact ⟨0, by omega, rfl, Fr.refl _ _⟩
          case round =>
            obtain ⟨u, hu, rfl, hf6⟩ := hrel
            have HF6 := Lib.hid hf6; clear hf6
            by_cases hul : u < M.length
            · obtain ⟨g5, cap5, he5, hg5, hrow5⟩ := HO5.out.row (by omega)
              simp only [Value.slice.injEq, true_and] at he5
              obtain ⟨rfl, rfl⟩ := he5
              obtain ⟨g6, cap6, he6, hg6, hrow6⟩ := HO6.out.row (by omega)
              simp only [Value.slice.injEq, true_and] at he6
              obtain ⟨rfl, rfl⟩ := he6
              have u0 : (0 : Int) ≤ (u : Int) := by omega
              have u3 : (u : Int) < (M.length : Int) := by omega
              have q0 := HF6.out.cell (hrow5.cells u hul).1 (by simp)
              have q1 := HF6.out.cell (hrow5.cells u hul).2 (by simp)
              have q2 := HF6.out.cell (hrow6.cells u hul).1 (by simp)
              have q3 := HF6.out.cell (hrow6.cells u hul).2 (by simp)
              clear hrow5 hrow6
              generalize (lq M u).1 = x at *
              generalize (lq M u).2 = y at *
              go_wp2_with (first | go_quiet (fail) | go_in)
              go_roundw
              case rel => exact ⟨u + 1, by omega, by go_num, HF6.out.drewN _⟩
              case measure => simp [intOf]; omega
            · obtain rfl : u = M.length := by omega
              have hs6 := HF6.out.size
              go_wp2
              go_roundw
              case rel => exact ⟨t + 1, by omega, by go_num, by rw [HST.out]; exact HH5.out.fr HF6.out (by simp) (by simp), by rw [HST.out]; exact ((HO6.out.kept HF6.out (by simp)).mono (by omega)), HF5.out.trans HF6.out (by simp), by omega⟩
              case measure => simp [intOf]; omega
        · obtain rfl : t = n := by omega
          go_wp2_with fail
          refine (heavySeen_any wr p b k t _ HH.out).mono ?_
          rintro e w3 ⟨rfl, rfl⟩
          go_wp2
          go_ret
          exact ⟨by simp, HF.out⟩
    · have e2 : decide ((80 : Int) < (n : Int)) = true := by simp; omega
      go_wp2
      go_ret
      exact ⟨rfl, HF2.out⟩
  · have HNO := Lib.hid hk
    have hc : K < 1 ∨ (1 ≤ K ∧ 64 < K) := by omega
    clear hk
    rcases hc with h1 | ⟨h1, h2⟩
    all_goals
      go_wp2_with fail
      refine (heavyNew_bad w1 K HNO.out).mono ?_
      rintro e w2 ⟨rfl, rfl⟩
      go_wp2_with fail
      refine (error_any _ (some 6) 6 (HG.out.fr HF1.out (by simp))).mono ?_
      rintro e w2 ⟨rfl, hf2⟩
      rw [show decide (numOf (some 6) = 6) = true from rfl]
      have HF2 := Lib.hid (HF1.out.trans hf2 (by simp)); clear hf2
      go_wp2
      go_ret
      exact ⟨rfl, HF2.out⟩
end Go.Proofs.YtgpfkaiinbncnaaDoor
