/- NodesFault of the reference. -/
import Derived.Test.YtbaiaolgjlhioaaDoorNodes
import Derived.BigQuiet
namespace Go.Proofs.YtbaiaolgjlhioaaDoor
open Go.RowKit

set_option maxHeartbeats 4000000 in
set_option maxRecDepth 100000 in
theorem nodesFault_any (w : World) (a : Option Addr) (n c : Nat) (p : Nat → Int × Int) (hv : RdP w (.slice a n c) n p) :
    Calls Tryd.prog 6 #[.slice a n c] w fun e w' => e = .returned (.int .i64 (nfault p n)) ∧ Fr [] w w' := by
  have HV := Lib.hid hv; clear hv
  go_enter Tryd.func6, Tryd.ntmps6
  by_cases h40 : 40 < n
  · have e : nfault p n = 7 := by unfold nfault; rw [if_pos h40]
    have HE := Lib.hid e; clear e
    go_wp2
    go_ret
    exact ⟨by rw [HE.out]; rfl, Fr.refl _ _⟩
  go_wp2
  go_loopw [3] (fun i wr => ∃ k : Nat, k ≤ n ∧ i = .int .i64 k ∧ nfk p k = 0 ∧ Fr [] w wr) (fun i _ => n - (intOf i).toNat)
  case atStart => exact ⟨0, by omega, rfl, rfl, Fr.refl _ _⟩
  case round =>
    obtain ⟨k, hk, rfl, hnf, hf⟩ := hrel
    have HNF := Lib.hid hnf; clear hnf
    have HF := Lib.hid hf; clear hf
    by_cases hlt : k < n
    · obtain ⟨b, o, cap', he, hnc, hcm, hbw, hc⟩ := HV.out.shape (by omega)
      simp only [Value.slice.injEq, true_and] at he
      obtain ⟨rfl, rfl⟩ := he
      have HC := Lib.hid hc
      obtain ⟨k0, k1⟩ := hc k hlt
      have c0 := HF.out.cell k0 (by simp)
      have c1 := HF.out.cell k1 (by simp)
      clear hc
      have HK0 := Lib.hid k0
      clear k0 k1
      by_cases hr : NRange (p k)
      case neg =>
        have e : nfault p n = 6 := by
          have e1 : nfk p (k + 1) = 6 := by simp only [nfk]; rw [if_neg (by simpa using HNF.out), if_pos hr]
          unfold nfault
          rw [if_neg h40, nfk_of p (k + 1) n (by rw [e1]; decide) (by omega), e1, if_pos (by decide)]
        have HE := Lib.hid e; clear e
        unfold NRange at hr
        by_cases h1 : (p k).1 < 0
        · go_wp2
          go_ret
          exact ⟨by rw [HE.out]; rfl, HF.out⟩
        by_cases h2 : 2147483647 < (p k).1
        · go_wp2
          go_ret
          exact ⟨by rw [HE.out]; rfl, HF.out⟩
        by_cases h3 : (p k).2 < 1
        · go_wp2
          go_ret
          exact ⟨by rw [HE.out]; rfl, HF.out⟩
        have h4 : 16 < (p k).2 := by omega
        clear hr
        go_wp2
        go_ret
        exact ⟨by rw [HE.out]; rfl, HF.out⟩
      have HR := Lib.hid hr
      obtain ⟨r1, r2, r3, r4⟩ := hr
      have z1 : decide ((p k).1 < 0) = false := by simpa using r1
      have z2 : decide (2147483647 < (p k).1) = false := by simpa using r2
      have z3 : decide ((p k).2 < 1) = false := by simp; omega
      have z4 : decide (16 < (p k).2) = false := by simpa using r4
      go_wp2
      clear z1 z2 z3 z4 c1
      go_loopw [4] (fun i wr => ∃ j : Nat, j ≤ k ∧ i = .int .i64 j ∧ metN p (p k).1 j = false ∧ Fr [] w wr) (fun i _ => k - (intOf i).toNat)
      case atStart => exact ⟨0, by omega, rfl, rfl, HF.out⟩
      case round =>
        clear HF c0
        obtain ⟨j, hj, rfl, hmt, hf⟩ := hrel
        have HMT := Lib.hid hmt; clear hmt
        have HF := Lib.hid hf; clear hf
        by_cases hlt2 : j < k
        · obtain ⟨j0, _⟩ := HC.out j (by omega)
          have c0 := HF.out.cell HK0.out (by simp)
          have d0 := HF.out.cell j0 (by simp)
          clear j0
          have x0 : (0 : Int) ≤ (j : Int) := by omega
          have x1 : (j : Int) < (n : Int) := by omega
          have x2 : (0 : Int) ≤ (k : Int) := by omega
          have x3 : (k : Int) < (n : Int) := by omega
          by_cases he2 : (p j).1 = (p k).1
          · have e : nfault p n = 10 := by
              have hm : metN p (p k).1 k = true := (metN_iff _ _ _).2 ⟨j, hlt2, he2⟩
              have e1 : nfk p (k + 1) = 10 := by simp only [nfk]; rw [if_neg (by simpa using HNF.out), if_neg (by simpa using HR.out), if_pos hm]
              unfold nfault
              rw [if_neg h40, nfk_of p (k + 1) n (by rw [e1]; decide) (by omega), e1, if_pos (by decide)]
            have HE := Lib.hid e; clear e
            rw [he2] at d0
            clear he2
            go_wp2_with fail
            go_quiet (fail)
            go_wp2
            go_ret
            exact ⟨by rw [HE.out]; rfl, HF.out.drewN _⟩
          · have hne : ((p j).1 == (p k).1) = false := by simpa using he2
            have HM2 := Lib.hid (show metN p (p k).1 (j + 1) = false by simp only [metN]; rw [HMT.out, hne]; rfl)
            clear he2
            go_wp2_with fail
            go_quiet (fail)
            go_wp2
            go_roundw
            case rel => exact ⟨j + 1, by omega, by go_num, HM2.out, HF.out.drewN _⟩
            case measure => simp [intOf]; omega
        · obtain rfl : j = k := by omega
          have HNF1 := Lib.hid (show nfk p (j + 1) = 0 by simp only [nfk]; rw [if_neg (by simpa using HNF.out), if_neg (by simpa using HR.out), if_neg (by rw [HMT.out]; decide)])
          go_wp2
          go_roundw
          case rel => exact ⟨j + 1, by omega, by go_num, HNF1.out, HF.out⟩
          case measure => simp [intOf]; omega
    · obtain rfl : k = n := by omega
      by_cases h0 : k = 0
      · have e : nfault p k = 9 := by unfold nfault; rw [if_neg h40, if_neg (by simpa using HNF.out), if_pos h0]
        have HE := Lib.hid e; clear e
        subst h0
        go_wp2
        go_ret
        exact ⟨by rw [HE.out]; rfl, HF.out⟩
      · have e : nfault p k = 0 := by unfold nfault; rw [if_neg h40, if_neg (by simpa using HNF.out), if_neg h0]
        have HE := Lib.hid e; clear e
        have hk0 : (k == 0) = false := by simpa using h0
        go_wp2
        go_ret
        exact ⟨by rw [HE.out]; rfl, HF.out⟩

end Go.Proofs.YtbaiaolgjlhioaaDoor
