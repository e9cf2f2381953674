/- The reference's Takes, RuleFault, Ahead. -/
import Derived.Test.YtgpfkaiinbncnaaDoorRefMatch
import Derived.Test.YtgpfkaiinbncnaaDoorHeldLaw
import Derived.Test.YtgpfkaiinbncnaaDoorCellsApp
namespace Go.Proofs.YtgpfkaiinbncnaaDoor
open Go.RowKit

theorem takesRef_any (w : World) (op : Int) : Calls Tryd.prog 74 #[.int .i64 op] w fun e w' => e = .returned (.int .i64 ((tkN op : Nat) : Int)) ∧ w = w' := by
  rw [← tk_eq]
  go_enter Tryd.func74, Tryd.ntmps74
  by_cases h8 : op = 8
  · subst h8
    go_wp2
    go_ret
    exact ⟨rfl, rfl⟩
  by_cases h9 : op = 9
  · subst h9
    go_wp2
    go_ret
    exact ⟨rfl, rfl⟩
  by_cases h10 : op = 10
  · subst h10
    go_wp2
    go_ret
    exact ⟨rfl, rfl⟩
  have HE := Lib.hid (show tk op = 0 by unfold tk; rw [if_neg h8, if_neg (by omega)])
  have b9 : (op == 9) = false := by simpa using h9
  have b10 : (op == 10) = false := by simpa using h10
  go_wp2
  go_ret
  exact ⟨by rw [HE.out]; rfl, rfl⟩

/-- a rule's parts, in a world -/
structure Pts (W : World) (a : Option Addr) (n c : Nat) (M : Nat → Mt) : Prop where
  rd : RdC W (.slice a n c) 4 n (fun j => (M j).F)
  ok : ∀ j, j < n → (M j).Ok W
  hc : n ≤ c ∧ c ≤ maxLen

theorem Pts.fr {W w : World} {a : Option Addr} {n c : Nat} {M : Nat → Mt} (h : Pts W a n c M) (hf : Fr [] W w) : Pts w a n c M := ⟨h.rd.fr hf, fun j hj => (h.ok j hj).fr hf, h.hc⟩

theorem rF_200 {M : Nat → Mt} {n : Nat} (h : 200 < n) : rdFault M n = 7 := by unfold rdFault; rw [if_pos h]
theorem rF_n1 {M : Nat → Mt} {n k : Nat} (h : ¬ 200 < n) (hk : k < n) (h0 : fstN M k = 0) (hz : n1Fault (M k) ≠ 0) : rdFault M n = n1Fault (M k) := by
  have e1 : fstN M (k + 1) = n1Fault (M k) := by simp only [fstN]; rw [if_pos h0]
  have e2 := fstN_keep (M := M) (i := k + 1) (n := n) (by omega) (by rw [e1]; exact hz)
  unfold rdFault
  rw [if_neg h, if_pos (by rw [e2, e1]; exact hz), e2, e1]
theorem rF_fed {M : Nat → Mt} {n k : Nat} (h : ¬ 200 < n) (h0 : fstN M n = 0) (hk : k < n) (hz : ¬ tkN (M k).op ≤ dps M k) : rdFault M n = 1 := by
  unfold rdFault
  rw [if_neg h, if_neg (by simp [h0]), if_neg (by rw [fed_false hk hz]; simp)]
theorem rF_dps {M : Nat → Mt} {n : Nat} (h : ¬ 200 < n) (h0 : fstN M n = 0) (hz : dps M n ≠ 1) : rdFault M n = 1 := by
  unfold rdFault
  rw [if_neg h, if_neg (by simp [h0]), if_neg (by rintro ⟨_, h1⟩; exact hz h1)]
theorem rF_ok {M : Nat → Mt} {n : Nat} (h : ¬ 200 < n) (h0 : fstN M n = 0) (hf : fed M n = true) (hz : dps M n = 1) : rdFault M n = 0 := by
  unfold rdFault
  rw [if_neg h, if_neg (by simp [h0]), if_pos ⟨hf, hz⟩]

set_option maxHeartbeats 8000000 in
set_option maxRecDepth 100000 in
theorem ruleFault_any (W : World) (a : Option Addr) (n c : Nat) (M : Nat → Mt) (h : Pts W a n c M) :
    Calls Tryd.prog 58 #[.slice a n c] W fun e w' => e = .returned (.int .i64 (rdFault M n)) ∧ Fr [] W w' := by
  have hc := h.hc
  unfold maxLen at hc
  by_cases h200 : 200 < n
  · have HV := Lib.hid (rF_200 (M := M) h200)
    go_enter Tryd.func58, Tryd.ntmps58
    go_wp2
    go_ret
    exact ⟨by rw [HV.out]; rfl, Fr.refl _ _⟩
  have HN := Lib.hid h200
  have hn : n ≤ 200 := by omega
  clear hc h200
  have HR := Lib.hid h.rd
  have HOK := Lib.hid h.ok
  clear h
  go_enter Tryd.func58, Tryd.ntmps58
  go_wp2
  go_loopw [3] (fun vi wr => ∃ k : Nat, k ≤ n ∧ vi = .int .i64 k ∧ fstN M k = 0 ∧ Fr [] W wr) (fun vi _ => n - (intOf vi).toNat)
  case atStart => exact ⟨0, by omega, rfl, rfl, Fr.refl _ _⟩
  case round =>
    obtain ⟨k, hk, rfl, hfst, hfr⟩ := hrel
    have HFST := Lib.hid hfst; clear hfst
    have HFR := Lib.hid hfr; clear hfr
    by_cases hlt : k < n
    · obtain ⟨bb, oo, cc, he, _, _, _, hcell⟩ := (HR.out.fr HFR.out).shape (by omega) (by decide)
      simp only [Value.slice.injEq, true_and] at he
      obtain ⟨rfl, rfl⟩ := he
      have c0 : wr.cell? ⟨bb, oo + k * 4, none⟩ = some (.int .i64 (M k).op) := hcell k 0 hlt (by decide)
      have c1 : wr.cell? ⟨bb, oo + k * 4 + 1, none⟩ = some (.int .i64 (M k).k) := hcell k 1 hlt (by decide)
      have c2 : wr.cell? ⟨bb, oo + k * 4 + 2, none⟩ = some (.slice (M k).na (M k).nl (M k).nc) := hcell k 2 hlt (by decide)
      have c3 : wr.cell? ⟨bb, oo + k * 4 + 3, none⟩ = some (.slice (M k).aa (M k).al (M k).ac) := hcell k 3 hlt (by decide)
      clear hcell
      have k0 : (0 : Int) ≤ (k : Int) := by omega
      have k1 : (k : Int) < (n : Int) := by omega
      have HC := Lib.hid (fun w (hf : Fr [] W w) => matchFault_any w (M k) ((HOK.out k hlt).fr hf))
      unfold Mt.agg at HC
      by_cases hz : n1Fault (M k) = 0
      · have HS := Lib.hid (show fstN M (k + 1) = 0 by simp only [fstN]; rw [if_pos HFST.out]; exact hz)
        rw [hz] at HC
        clear hz
        go_wp2_with (go_at_call 73; refine (HC.out _ HFR.out).mono ?_; rintro e wx ⟨rfl, hfx⟩)
        go_roundw
        case rel => exact ⟨k + 1, by omega, by go_num, HS.out, HFR.out.trans hfx (by simp)⟩
        case measure => simp [intOf]; omega
      · have HZ := Lib.hid (rF_n1 HN.out hlt HFST.out hz)
        have hz2 : (n1Fault (M k) != 0) = true := by simpa using hz
        clear hz
        generalize n1Fault (M k) = z at *
        go_wp2_with (go_at_call 73; refine (HC.out _ HFR.out).mono ?_; rintro e wx ⟨rfl, hfx⟩)
        go_ret
        exact ⟨by rw [HZ.out]; rfl, HFR.out.trans hfx (by simp)⟩
    · obtain rfl : k = n := by omega
      clear hlt hk
      go_wp2
      obtain ⟨wo, rfl⟩ : ∃ wo : World, wo = wr := ⟨_, rfl⟩
      go_loop [5, 6] (fun vh vi => ∃ i : Nat, i ≤ k ∧ vi = .int .i64 i ∧ vh = .int .i64 (dps M i) ∧ fed M i = true) (fun _ vi => k - (intOf vi).toNat)
      case atStart => exact ⟨0, by omega, rfl, rfl, rfl⟩
      case round =>
        obtain ⟨i, hi, rfl, rfl, hfed⟩ := hrel
        have HFED := Lib.hid hfed; clear hfed
        have hdk := dps_le M i
        by_cases hlt : i < k
        · obtain ⟨bb, oo, cc, he, _, _, _, hcell⟩ := (HR.out.fr HFR.out).shape (by omega) (by decide)
          simp only [Value.slice.injEq, true_and] at he
          obtain ⟨rfl, rfl⟩ := he
          have c0 : wo.cell? ⟨bb, oo + i * 4, none⟩ = some (.int .i64 (M i).op) := hcell i 0 hlt (by decide)
          clear hcell
          have k0 : (0 : Int) ≤ (i : Int) := by omega
          have k1 : (i : Int) < (k : Int) := by omega
          have htk := tkN_le (M i).op
          have HC := Lib.hid (fun w => takesRef_any w (M i).op)
          by_cases hle : tkN (M i).op ≤ dps M i
          · have HFE := Lib.hid (show fed M (i + 1) = true by simp only [fed]; rw [HFED.out, decide_eq_true hle]; rfl)
            have HDP := Lib.hid (show ((dps M (i + 1) : Nat) : Int) = (dps M i : Int) + (1 - (tkN (M i).op : Int)) by simp only [dps]; omega)
            generalize tkN (M i).op = t at *
            generalize dps M i = d at *
            go_wp2_with (go_at_call 74; refine (HC.out _).mono ?_; rintro e wx ⟨rfl, rfl⟩)
            go_round
            case rel => exact ⟨i + 1, by omega, by go_num, by rw [HDP.out], HFE.out⟩
            case measure => simp [intOf]; omega
          · have HZ := Lib.hid (rF_fed HN.out HFST.out hlt hle)
            have hlt2 : dps M i < tkN (M i).op := by omega
            clear hle
            generalize tkN (M i).op = t at *
            generalize dps M i = d at *
            go_wp2_with (go_at_call 74; refine (HC.out _).mono ?_; rintro e wx ⟨rfl, rfl⟩)
            go_ret
            exact ⟨by rw [HZ.out]; rfl, HFR.out⟩
        · obtain rfl : i = k := by omega
          by_cases hd : dps M i = 1
          · have HZ := Lib.hid (rF_ok HN.out HFST.out HFED.out hd)
            rw [hd]
            clear hd
            go_wp2
            go_ret
            exact ⟨by rw [HZ.out]; rfl, HFR.out⟩
          · have HZ := Lib.hid (rF_dps HN.out HFST.out hd)
            have hdI : ((dps M i : Int) != 1) = true := by simp; omega
            clear hd
            generalize dps M i = d at *
            go_wp2
            go_ret
            exact ⟨by rw [HZ.out]; rfl, HFR.out⟩

set_option maxHeartbeats 4000000 in
set_option maxRecDepth 100000 in
theorem ahead_any (W : World) (a : Option Addr) (n c : Nat) (M : Nat → Mt) (h : Pts W a n c M) (hn : n ≤ 200) (p : Nat) (hp : p < n) (hfed : fed M (p + 1) = true) (w : World) (hf : Fr [] W w) :
    Calls Tryd.prog 78 #[.slice a n c, .int .i64 p] w fun e w' => e = .returned (.int .i64 (ahN M p 1 : Nat)) ∧ w = w' := by
  have HR := Lib.hid (h.rd.fr hf)
  clear h hf
  have HFED := Lib.hid hfed
  have HD1 := Lib.hid (show 1 ≤ dps M (p + 1) by simp only [dps]; omega)
  clear hfed
  go_enter Tryd.func78, Tryd.ntmps78
  go_wp2
  go_loop [1, 5] (fun vi vm => ∃ i m : Nat, i ≤ p ∧ 1 ≤ m ∧ m ≤ dps M (i + 1) ∧ vi = .int .i64 i ∧ vm = .int .i64 m ∧ fed M (i + 1) = true ∧ ahN M i m = ahN M p 1) (fun vi _ => (intOf vi).toNat)
  case atStart => exact ⟨p, 1, by omega, by omega, HD1.out, rfl, rfl, HFED.out, rfl⟩
  case round =>
    clear HFED HD1
    obtain ⟨i, m, hi, hm1, hm2, rfl, rfl, hfed, hah⟩ := hrel
    have HFED := Lib.hid hfed; clear hfed
    have HAH := Lib.hid hah; clear hah
    obtain ⟨bb, oo, cc, he, _, _, _, hcell⟩ := HR.out.shape (by omega) (by decide)
    simp only [Value.slice.injEq, true_and] at he
    obtain ⟨rfl, rfl⟩ := he
    have c0 : w.cell? ⟨bb, oo + i * 4, none⟩ = some (.int .i64 (M i).op) := hcell i 0 (by omega) (by decide)
    clear hcell
    have k0 : (0 : Int) ≤ (i : Int) := by omega
    have k1 : (i : Int) < (n : Int) := by omega
    have htk := tkN_le (M i).op
    have hdi := dps_le M i
    have hfp : fed M i = true ∧ tkN (M i).op ≤ dps M i := by
      have := HFED.out
      simp only [fed, Bool.and_eq_true, decide_eq_true_eq] at this
      exact this
    have HFP := Lib.hid hfp.1
    have hdm : m + tkN (M i).op ≤ dps M i + 1 := by
      have := hfp.2
      simp only [dps] at hm2
      omega
    have hlt := hfp.2
    clear hfp hm2
    have HC := Lib.hid (fun w => takesRef_any w (M i).op)
    cases i with
    | zero =>
      rw [show oo + 0 * 4 = oo by omega] at c0
      have hd0 : dps M 0 = 0 := rfl
      rw [hd0] at hdm hlt
      have ht0 : tkN (M 0).op = 0 := by omega
      have hm : m = 1 := by omega
      subst hm
      rw [ht0, show ((0 : Nat) : Int) = 0 from rfl] at HC
      have HV := Lib.hid (show ahN M p 1 = 0 from HAH.out.symm)
      clear hd0 ht0 htk hdi hdm hlt HAH
      go_wp2_with (go_at_call 74; refine (HC.out _).mono ?_; rintro e wx ⟨rfl, rfl⟩)
      go_ret
      exact ⟨by rw [HV.out]; rfl, rfl⟩
    | succ i =>
      have HS := Lib.hid (show ahN M (i + 1) m = if m + tkN (M (i + 1)).op = 1 then i + 1 else ahN M i (m + tkN (M (i + 1)).op - 1) from rfl)
      generalize tkN (M (i + 1)).op = t at *
      by_cases h1 : m + t = 1
      · have hm : m = 1 := by omega
        have ht : t = 0 := by omega
        subst hm
        subst ht
        rw [show ((0 : Nat) : Int) = 0 from rfl] at HC
        have HV := Lib.hid (show ahN M p 1 = i + 1 from HAH.out.symm.trans (HS.out.trans (if_pos rfl)))
        clear HS HAH h1
        go_wp2_with (go_at_call 74; refine (HC.out _).mono ?_; rintro e wx ⟨rfl, rfl⟩)
        go_ret
        exact ⟨by rw [HV.out]; rfl, rfl⟩
      · have HV := Lib.hid (show ahN M i (m + t - 1) = ahN M p 1 from (HS.out.trans (if_neg h1)).symm.trans HAH.out)
        have hne : ¬ ((m : Int) + ((t : Int) - 1)) = 0 := by omega
        have hne2 : (((m : Int) + ((t : Int) - 1)) == 0) = false := by simpa using hne
        have HE := Lib.hid (show (m : Int) + ((t : Int) - 1) = ((m + t - 1 : Nat) : Int) by omega)
        clear HS HAH h1
        go_wp2_with (go_at_call 74; refine (HC.out _).mono ?_; rintro e wx ⟨rfl, rfl⟩)
        go_round
        case rel => exact ⟨i, m + t - 1, by omega, by omega, by omega, by simp, by rw [HE.out], HFP.out, HV.out⟩
        case measure => simp [intOf]

end Go.Proofs.YtgpfkaiinbncnaaDoor
