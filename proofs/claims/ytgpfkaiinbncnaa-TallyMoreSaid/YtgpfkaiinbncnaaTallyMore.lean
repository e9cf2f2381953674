/- TallyMore: the walk. -/
import Derived.Test.YtgpfkaiinbncnaaTallyBounds
namespace Go.Proofs.Ytgpfkaiinbncnaa
open Go.RowKit

/-- Bound tells a number -/
def BOk (F : Nat → Int) (p : Int) : Prop := (0 ≤ p ∧ p ≤ 100) ∧ 0 < isum F 64

theorem tal_bound_err (w : World) (v : Value) (F : Nat → Int) (h : TalIs w v F) (hF : ∀ j, 0 ≤ F j ∧ F j ≤ 1000000) (p : Int) (hp : ¬ BOk F p) :
    Calls Try.prog 20 #[v, .int .i64 p] w fun e w' => ∃ d : Int, e = .returned (.tuple #[.int .i64 0, .iface 71 (.int .i64 d)]) ∧ Fr [] w w' := by
  by_cases h1 : 0 ≤ p ∧ p ≤ 100
  · have h0 : isum F 64 = 0 := by
      have h2 : 0 ≤ isum F 64 := isum_mono F (fun j => (hF j).1) 0 64 (by omega)
      have : ¬ 0 < isum F 64 := fun h3 => hp ⟨h1, h3⟩
      omega
    exact (tally_bound_none w v F h hF p h1 h0).mono fun e w' ⟨he, hf⟩ => ⟨9, he, hf⟩
  · exact (tally_bound_bad w v F h hF p (by omega)).mono fun e w' ⟨he, hf⟩ => ⟨6, he, hf⟩

theorem bnd_mono {F : Nat → Int} {p q : Int} {i k : Nat} (hp : BndAt F p i) (hq : BndAt F q k) (hpq : p ≤ q) (hs : 0 ≤ isum F 64) : (2 : Int) ^ i - 1 ≤ 2 ^ k - 1 := by
  have hik : i ≤ k := by
    by_cases h : i ≤ k
    · exact h
    · have h1 := hp.2.1 k (by omega)
      have h2 := hq.2.2
      have h3 : p * isum F 64 ≤ q * isum F 64 := Int.mul_le_mul_of_nonneg_right hpq hs
      omega
  have h := Nat.pow_le_pow_right (n := 2) (by decide) hik
  have e1 : ((2 ^ i : Nat) : Int) = (2 : Int) ^ i := by simp
  have e2 : ((2 ^ k : Nat) : Int) = (2 : Int) ^ k := by simp
  omega

theorem bnd_more {F G : Nat → Int} {p x : Int} {i k : Nat} (hG : G = fun j => F j + if j = plc x then 1 else 0) (hi : BndAt F p i) (hk : BndAt G p k) (hp : 0 ≤ p) (hx0 : 0 ≤ x) (hx1 : x ≤ 9223372036854775807) (hx : ¬ x ≤ 2 ^ i - 1) :
    (2 : Int) ^ i - 1 ≤ 2 ^ k - 1 := by
  have hpl : ¬ plc x ≤ i := fun h => hx ((plc_iff x i hx0 hx1).1 h)
  have e : ∀ m, isum G m = isum F m + if plc x < m then 1 else 0 := fun m => by
    rw [hG]
    have := isum_add F (fun j => if j = plc x then (1 : Int) else 0) m
    rw [isum_one] at this
    exact this
  have hlt := plc_lt x hx0 hx1
  have hik : i ≤ k := by
    by_cases h : i ≤ k
    · exact h
    · have h1 := hi.2.1 k (by omega)
      have h2 := hk.2.2
      rw [e 64, e (k + 1), if_pos hlt, if_neg (by omega), Int.mul_add] at h2
      omega
  have h := Nat.pow_le_pow_right (n := 2) (by decide) hik
  have e1 : ((2 ^ i : Nat) : Int) = (2 : Int) ^ i := by simp
  have e2 : ((2 ^ k : Nat) : Int) = (2 : Int) ^ k := by simp
  omega

set_option maxRecDepth 100000 in
set_option maxHeartbeats 4000000 in
theorem tallyMore_any (w : World) (a : Option Addr) (n c : Nat) (ns : Nat → Int) (p q x : Int) (hv : RdF w (.slice a n c) n (fun j => .int .i64 (ns j))) (hns : ∀ j, j < n → ns j ≤ 9223372036854775807) (hxx : x ≤ 9223372036854775807) :
    Calls Try.prog 6 #[.slice a n c, .int .i64 p, .int .i64 q, .int .i64 x] w fun e w' => e = .returned (.bool true) ∧ Fr [] w w' := by
  have hcm := hv.le_cap
  unfold maxLen at hcm
  have HV := Lib.hid hv; clear hv
  have HN := Lib.hid hns; clear hns
  go_enter Try.func6, Try.ntmps6
  go_wp2_with fail
  refine (added_any _).mono ?_
  rintro e w0 ⟨rfl, hf0⟩
  have HF0 := Lib.hid hf0; clear hf0
  by_cases hn : 100 < n
  · go_wp2
    go_ret
    exact ⟨rfl, HF0.out⟩
  go_wp2
  go_loopw [10, 11] (fun t i wr => ∃ (k : Nat), k ≤ n ∧ i = .int .i64 k ∧ TalIs wr t (cnf ns k) ∧ Hid (∀ j, j < k → 0 ≤ ns j) ∧ Fr [] w wr) (fun _ i _ => n - (intOf i).toNat)
  case atStart => exact ⟨0, by omega, rfl, TalIs.nil _, Lib.hid (fun j hj => by omega), HF0.out⟩
  case round =>
    obtain ⟨k, hk, rfl, hT, HNN, hf⟩ := hrel
    have HT := Lib.hid hT; clear hT
    have HF := Lib.hid hf; clear hf
    have hall : ∀ j, j < k → 0 ≤ ns j ∧ ns j ≤ 9223372036854775807 := fun j hj => ⟨HNN.out j hj, HN.out j (by omega)⟩
    have HALL := Lib.hid hall; clear hall
    have HPL := Lib.hid (show ∀ j, j < k → plc (ns j) < 64 from fun j hj => plc_lt _ (HALL.out j hj).1 (HALL.out j hj).2)
    have HCB := Lib.hid (show ∀ j, 0 ≤ cnf ns k j ∧ cnf ns k j ≤ 1000000 from fun j => by have := cnf_bd ns k j; omega)
    by_cases hlt : k < n
    · obtain ⟨b1, o1, c1, he1, _, _, _, hc1⟩ := HV.out.shape (by omega)
      simp only [Value.slice.injEq, true_and] at he1
      obtain ⟨rfl, rfl⟩ := he1
      have K1 := Lib.hid (hc1 k hlt)
      have k1 := HF.out.cell K1.out (by simp)
      clear hc1
      have k0 : (0 : Int) ≤ (k : Int) := by omega
      have k3 : (k : Int) < (n : Int) := by omega
      by_cases hx : 0 ≤ ns k
      · have HX := Lib.hid hx; clear hx
        go_wp2_with fail
        refine (tal_add _ _ _ HT.out HCB.out (fun j hj => cnf_far ns k j HPL.out hj) (ns k) HX.out (HN.out k hlt)).mono ?_
        rintro e w2 ⟨g, m, rfl, hg, hT2, hf2⟩
        have HT2 := Lib.hid (show TalIs w2 _ (cnf ns (k + 1)) from hT2); clear hT2
        have HF2 := Lib.hid (HF.out.trans hf2 (by simp)); clear hf2
        clear k1
        go_wp2
        go_roundw
        case rel => exact ⟨k + 1, by omega, by go_num, HT2.out, Lib.hid (fun j hj => by
          by_cases h : j < k
          · exact HNN.out j h
          · obtain rfl : j = k := by omega
            exact HX.out), HF2.out⟩
        case measure => simp [intOf]; omega
      · have hneg : ns k < 0 := by omega
        clear hx
        go_wp2_with fail
        refine (tally_add_neg _ _ _ HT.out HCB.out (ns k) hneg).mono ?_
        rintro e w2 ⟨rfl, hf2⟩
        have k2 := hf2.cell k1 (by simp)
        have HF2 := Lib.hid (HF.out.trans hf2 (by simp)); clear hf2
        clear k1
        go_wp2
        go_ret
        exact ⟨by simp, HF2.out⟩
    · obtain rfl : k = n := by omega
      have hsum := isum_cnf_all ns k HPL.out
      have HCB2 := Lib.hid (show ∀ j, 0 ≤ cnf ns k j ∧ cnf ns k j ≤ 100 from fun j => by have := cnf_bd ns k j; omega)
      have HFAR := Lib.hid (fun j (hj : 64 ≤ j) => cnf_far ns k j HPL.out hj)
      generalize cnf ns k = F at *
      have HSUM := Lib.hid hsum; clear hsum
      by_cases hp : BOk F p
      · have hp1 := hp.1
        go_wp2_with fail
        refine (tal_bound _ _ _ HT.out HCB.out p hp.1 hp.2 (by rw [HSUM.out]; omega)).mono ?_
        rintro e w2 ⟨i, hbi, rfl, hf2⟩
        have HT2 := Lib.hid (HT.out.fr hf2 (by simp))
        have HF2 := Lib.hid (HF.out.trans hf2 (by simp)); clear hf2
        by_cases hq : BOk F q
        · go_wp2_with fail
          refine (tal_bound _ _ _ HT2.out HCB.out q hq.1 hq.2 (by rw [HSUM.out]; omega)).mono ?_
          rintro e w3 ⟨k2, hbk, rfl, hf3⟩
          have HT3 := Lib.hid (HT2.out.fr hf3 (by simp))
          have HF3 := Lib.hid (HF2.out.trans hf3 (by simp)); clear hf3
          have hmono : p ≤ q → (2 : Int) ^ i - 1 ≤ 2 ^ k2 - 1 := fun h => bnd_mono hbi hbk h (by have := hq.2; omega)
          have hpi := pow_bd i hbi.1
          have HBI := Lib.hid hbi; clear hbi hbk
          have HP := Lib.hid hp; clear hp hq
          generalize hA : (2 : Int) ^ i - 1 = A at *
          generalize (2 : Int) ^ k2 - 1 = B at *
          have HA := Lib.hid hA
          have hA0 : 0 ≤ A := by omega
          clear hA hpi
          by_cases hx : 0 ≤ x
          · have HG := Lib.hid (show ∀ j, 0 ≤ F j + (if j = plc x then 1 else 0) ∧ F j + (if j = plc x then 1 else 0) ≤ 1000000 from fun j => by
              have := HCB2.out j
              split <;> omega)
            have hsg : isum (fun i => F i + if i = plc x then 1 else 0) 64 = isum F 64 + 1 := by
              have h1 := isum_add F (fun j => if j = plc x then (1 : Int) else 0) 64
              rw [isum_one, if_pos (plc_lt x hx hxx)] at h1
              exact h1
            have HSG := Lib.hid hsg; clear hsg
            have hcase : (p ≤ q ∧ ¬ B < A) ∨ ¬ p ≤ q := by
              by_cases h : p ≤ q
              · have := hmono h
                exact .inl ⟨h, by omega⟩
              · exact .inr h
            clear hmono
            have HX1 := Lib.hid hx
            clear hx
            rcases hcase with ⟨hpq, hba⟩ | hpq
            all_goals
                have hx := HX1.out
                have HX := Lib.hid hx
                go_wp2_with fail
                refine (tal_add _ _ _ HT3.out HCB.out HFAR.out x HX.out hxx).mono ?_
                rintro e w4 ⟨g, m, rfl, hg, hT4, hf4⟩
                have HT4 := Lib.hid hT4; clear hT4
                have HF4 := Lib.hid (HF3.out.trans hf4 (by simp)); clear hf4
                go_wp2_with fail
                refine (tal_bound _ _ _ HT4.out HG.out p hp1 (by rw [HSG.out]; have := HP.out.2; omega) (by rw [HSG.out, HSUM.out]; omega)).mono ?_
                rintro e w5 ⟨k3, hbc, rfl, hf5⟩
                have HF5 := Lib.hid (HF4.out.trans hf5 (by simp)); clear hf5
                have hge : ¬ x ≤ A → A ≤ (2 : Int) ^ k3 - 1 := fun h => by
                  rw [← HA.out] at h ⊢
                  exact bnd_more rfl HBI.out hbc hp1.1 HX.out hxx h
                clear hbc
                generalize (2 : Int) ^ k3 - 1 = C at *
                by_cases hxa : x ≤ A
                · clear hge
                  go_wp2
                  go_ret
                  exact ⟨rfl, HF5.out⟩
                · have hAC := hge hxa
                  clear hge
                  go_wp2
                  go_ret
                  exact ⟨by simp, HF5.out⟩
          · have hcase : (p ≤ q ∧ ¬ B < A) ∨ ¬ p ≤ q := by
              by_cases h : p ≤ q
              · have := hmono h
                exact .inl ⟨h, by omega⟩
              · exact .inr h
            clear hmono
            have hneg : x < 0 := by omega
            have HNEG := Lib.hid hneg
            rcases hcase with ⟨hpq, hba⟩ | hpq
            all_goals
                go_wp2_with fail
                refine (tally_add_neg _ _ _ HT3.out HCB.out x HNEG.out).mono ?_
                rintro e w4 ⟨rfl, hf4⟩
                have HF4 := Lib.hid (HF3.out.trans hf4 (by simp)); clear hf4
                go_wp2
                go_ret
                exact ⟨by simp, HF4.out⟩
        · go_wp2_with fail
          refine (tal_bound_err _ _ _ HT2.out HCB.out q hq).mono ?_
          rintro e w3 ⟨d, rfl, hf3⟩
          have HF3 := Lib.hid (HF2.out.trans hf3 (by simp)); clear hf3 hbi hp hq
          go_wp2
          go_ret
          exact ⟨rfl, HF3.out⟩
      · go_wp2_with fail
        refine (tal_bound_err _ _ _ HT.out HCB.out p hp).mono ?_
        rintro e w2 ⟨d, rfl, hf2⟩
        have HT2 := Lib.hid (HT.out.fr hf2 (by simp))
        have HF2 := Lib.hid (HF.out.trans hf2 (by simp)); clear hf2
        by_cases hq : BOk F q
        · go_wp2_with fail
          refine (tal_bound _ _ _ HT2.out HCB.out q hq.1 hq.2 (by rw [HSUM.out]; omega)).mono ?_
          rintro e w3 ⟨k2, hbk, rfl, hf3⟩
          have HF3 := Lib.hid (HF2.out.trans hf3 (by simp)); clear hf3 hbk hp hq
          go_wp2
          go_ret
          exact ⟨rfl, HF3.out⟩
        · go_wp2_with fail
          refine (tal_bound_err _ _ _ HT2.out HCB.out q hq).mono ?_
          rintro e w3 ⟨d2, rfl, hf3⟩
          have HF3 := Lib.hid (HF2.out.trans hf3 (by simp)); clear hf3 hp hq
          go_wp2
          go_ret
          exact ⟨rfl, HF3.out⟩

end Go.Proofs.Ytgpfkaiinbncnaa
