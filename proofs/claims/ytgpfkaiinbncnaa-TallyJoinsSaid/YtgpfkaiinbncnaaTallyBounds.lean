/- TallyBounds: the walk. -/
import Derived.Test.YtgpfkaiinbncnaaTallyLaw
import Derived.Test.YtgpfkaiinbncnaaInts
namespace Go.Proofs.Ytgpfkaiinbncnaa
open Go.RowKit

set_option maxHeartbeats 1000000 in
theorem tally_add_neg (w : World) (v : Value) (F : Nat → Int) (h : TalIs w v F) (hF : ∀ j, 0 ≤ F j ∧ F j ≤ 1000000) (x : Int) (hx : x < 0) :
    Calls Try.prog 19 #[v, .int .i64 x] w fun e w' => e = .returned (.tuple #[.slice none 0 0, .iface 71 (.int .i64 6)]) ∧ Fr [] w w' := by
  obtain ⟨m, f, h1, h2, h3⟩ := h
  have H1 := Lib.hid h1; clear h1
  have H3 := Lib.hid (show ∀ j, j < m → 0 ≤ f j ∧ f j ≤ 1125899906842624 from fun j hj => by have e := h3 j; unfold pl64 at e; rw [if_pos hj] at e; rw [e]; have := hF j; omega); clear h3
  go_enter Try.func19, Try.ntmps19
  go_wp2_with fail
  refine (checked_any _ v m f H1.out h2 H3.out).mono ?_
  rintro e w1 ⟨g, cap, rfl, hg, hr1, hf1⟩
  have HF1 := Lib.hid hf1; clear hf1
  go_wp2
  go_ret2
  exact ⟨rfl, HF1.out⟩

set_option maxHeartbeats 1000000 in
theorem tally_bound_bad (w : World) (v : Value) (F : Nat → Int) (h : TalIs w v F) (hF : ∀ j, 0 ≤ F j ∧ F j ≤ 1000000) (p : Int) (hp : p < 0 ∨ (0 ≤ p ∧ 100 < p)) :
    Calls Try.prog 20 #[v, .int .i64 p] w fun e w' => e = .returned (.tuple #[.int .i64 0, .iface 71 (.int .i64 6)]) ∧ Fr [] w w' := by
  obtain ⟨m, f, h1, h2, h3⟩ := h
  have H1 := Lib.hid h1; clear h1
  have H3 := Lib.hid (show ∀ j, j < m → 0 ≤ f j ∧ f j ≤ 1125899906842624 from fun j hj => by have e := h3 j; unfold pl64 at e; rw [if_pos hj] at e; rw [e]; have := hF j; omega); clear h3
  rcases hp with hp | ⟨hp, hp2⟩
  all_goals
    go_enter Try.func20, Try.ntmps20
    go_wp2_with fail
    refine (checked_any _ v m f H1.out h2 H3.out).mono ?_
    rintro e w1 ⟨g, cap, rfl, hg, hr1, hf1⟩
    have HF1 := Lib.hid hf1; clear hf1
    go_wp2
    go_ret2
    exact ⟨rfl, HF1.out⟩

set_option maxHeartbeats 1000000 in
theorem tally_bound_none (w : World) (v : Value) (F : Nat → Int) (h : TalIs w v F) (hF : ∀ j, 0 ≤ F j ∧ F j ≤ 1000000) (p : Int) (hp : 0 ≤ p ∧ p ≤ 100) (hs : isum F 64 = 0) :
    Calls Try.prog 20 #[v, .int .i64 p] w fun e w' => e = .returned (.tuple #[.int .i64 0, .iface 71 (.int .i64 9)]) ∧ Fr [] w w' := by
  obtain ⟨m, f, h1, h2, h3⟩ := h
  have e64 : pl64 m f = F := funext h3
  have H1 := Lib.hid h1; clear h1
  have H3 := Lib.hid (show ∀ j, j < m → 0 ≤ f j ∧ f j ≤ 1125899906842624 from fun j hj => by have e := h3 j; unfold pl64 at e; rw [if_pos hj] at e; rw [e]; have := hF j; omega); clear h3
  have HS := Lib.hid hs; clear hs
  go_enter Try.func20, Try.ntmps20
  go_wp2_with fail
  refine (checked_any _ v m f H1.out h2 H3.out).mono ?_
  rintro e w1 ⟨g, cap, rfl, hg, hr1, hf1⟩
  rw [e64] at hr1
  have HF1 := Lib.hid hf1; clear hf1
  have HR1 := Lib.hid hr1; clear hr1
  clear e64
  go_wp2_with fail
  refine (count_any _ g 64 cap F HR1.out (by omega) (fun j hj => by have := hF j; omega) cap).mono ?_
  rintro e w2 ⟨rfl, rfl⟩
  rw [HS.out]
  go_wp2
  go_ret2
  exact ⟨rfl, HF1.out⟩

set_option maxHeartbeats 1000000 in
theorem added_any (w : World) : Calls Try.prog 18 #[] w fun e w' => e = .returned (.bool true) ∧ Fr [] w w' := by
  go_enter Try.func18, Try.ntmps18
  go_wp2_with fail
  refine (tally_add w (.slice none 0 0) 0 (fun _ => 0) (.inl ⟨rfl, rfl⟩) (by omega) (fun j hj => by omega) 5 (by omega) (by omega)).mono ?_
  rintro e w1 ⟨g, rfl, hg, ⟨cap, hr⟩, hf⟩
  have e5 : plc 5 = 3 := by decide
  have et : trm (fun j => if j = plc 5 then pl64 0 (fun _ => 0) j + 1 else pl64 0 (fun _ => 0) j) 64 = 4 := by rw [e5]; decide
  rw [et]
  have hlt := hr.lt
  have hv1 : RdF (w1.alloc (.cells #[.int .i64 0, .int .i64 0, .int .i64 0, .int .i64 1] 3)) (.slice (some ⟨g, 0, none⟩) 4 4) 4 (fun j => .int .i64 (if j = 3 then 1 else 0)) := by
    have h := ((hr.take 4 (by omega)).alloc (.cells #[.int .i64 0, .int .i64 0, .int .i64 0, .int .i64 1] 3))
    refine .inr ⟨_, 4, rfl, Nat.le_refl _, by decide, fun j hj => ?_⟩
    have e : (⟨g, 0, none⟩ : Addr).add j = ⟨g, j, none⟩ := by unfold Addr.add; split <;> simp_all
    rw [e, h.cell j hj, e5]
    simp [pl64]
  have hv2 : RdF (w1.alloc (.cells #[.int .i64 0, .int .i64 0, .int .i64 0, .int .i64 1] 3)) (.slice (some ⟨w1.heap.size, 0, none⟩) 4 4) 4 (fun j => .int .i64 (if j = 3 then 1 else 0)) :=
    (row_lit w1 #[.int .i64 0, .int .i64 0, .int .i64 0, .int .i64 1] 3 4 _ rfl (by decide) (fun j hj => by
      rcases (by omega : j = 0 ∨ j = 1 ∨ j = 2 ∨ j = 3) with rfl | rfl | rfl | rfl <;> rfl)).rd
  have HV1 := Lib.hid hv1
  have HV2 := Lib.hid hv2
  have HF := Lib.hid (hf.alloc (.cells #[.int .i64 0, .int .i64 0, .int .i64 0, .int .i64 1] 3))
  clear hv1 hv2 hf hr et e5
  go_wp2_with fail
  refine (ints_any _ _ _ _ _ _ _ _ _ HV1.out HV2.out (by omega) (by omega)).mono ?_
  rintro e w5 ⟨rfl, q5, rfl⟩
  have he5 : (decide ((4 : Nat) = 4) && eqUpTo (fun j => if j = 3 then (1 : Int) else 0) (fun j => if j = 3 then (1 : Int) else 0) 4) = true := by
    simp [(eqUpTo_iff _ _ _).2]
  rw [he5]
  clear he5
  go_wp2
  go_ret
  exact ⟨rfl, HF.out.drewN q5⟩

theorem pow_bd (i : Nat) (hi : i < 64) : 1 ≤ (2 : Int) ^ i ∧ (2 : Int) ^ i ≤ 9223372036854775808 := by
  have h : ∀ k : Fin 64, 1 ≤ (2 : Int) ^ k.val ∧ (2 : Int) ^ k.val ≤ 9223372036854775808 := by decide +kernel
  exact h ⟨i, hi⟩

/-- how many are not above b, how many are not above its half -/
theorem bound_counts (ns : Nat → Int) (n i : Nat) (hi : i < 64) (h : ∀ j, j < n → 0 ≤ ns j ∧ ns j ≤ 9223372036854775807) :
    cn (fun j => decide (ns j ≤ 2 ^ i - 1)) n = isum (cnf ns n) (i + 1) ∧ (0 < i → cn (fun j => decide (ns j ≤ (2 ^ i - 1) / 2)) n = isum (cnf ns n) i) := by
  refine ⟨?_, fun h0 => ?_⟩
  · rw [isum_cnf]
    refine cn_congr (fun j hj => ?_)
    have := plc_iff (ns j) i (h j hj).1 (h j hj).2
    simp only [decide_eq_decide]
    omega
  · rw [isum_cnf]
    refine cn_congr (fun j hj => ?_)
    obtain ⟨k, rfl⟩ : ∃ k, i = k + 1 := ⟨i - 1, by omega⟩
    have h1 := plc_iff (ns j) k (h j hj).1 (h j hj).2
    have h2 := pow_bd k (by omega)
    simp only [decide_eq_decide]
    rw [Int.pow_succ]
    omega

set_option maxRecDepth 100000 in
set_option maxHeartbeats 4000000 in
theorem tallyBounds_any (w : World) (a : Option Addr) (n c : Nat) (ns : Nat → Int) (p : Int) (hv : RdF w (.slice a n c) n (fun j => .int .i64 (ns j))) (hns : ∀ j, j < n → ns j ≤ 9223372036854775807) :
    Calls Try.prog 5 #[.slice a n c, .int .i64 p] w fun e w' => e = .returned (.bool true) ∧ Fr [] w w' := by
  have hcm := hv.le_cap
  unfold maxLen at hcm
  have HV := Lib.hid hv; clear hv
  have HN := Lib.hid hns; clear hns
  go_enter Try.func5, Try.ntmps5
  go_wp2_with fail
  refine (added_any _).mono ?_
  rintro e w0 ⟨rfl, hf0⟩
  have HF0 := Lib.hid hf0; clear hf0
  by_cases hn : 100 < n
  · go_wp2
    go_ret
    exact ⟨rfl, HF0.out⟩
  go_wp2
  go_loopw [6, 7] (fun t i wr => ∃ (k : Nat), k ≤ n ∧ i = .int .i64 k ∧ TalIs wr t (cnf ns k) ∧ Hid (∀ j, j < k → 0 ≤ ns j) ∧ Fr [] w wr) (fun _ i _ => n - (intOf i).toNat)
  case atStart => exact ⟨0, by omega, rfl, TalIs.nil _, Lib.hid (fun j hj => by omega), HF0.out⟩
  case round =>
    obtain ⟨k, hk, rfl, hT, HNN, hf⟩ := hrel
    have HT := Lib.hid hT; clear hT
    have HF := Lib.hid hf; clear hf
    have hall : ∀ j, j < k → 0 ≤ ns j ∧ ns j ≤ 9223372036854775807 := fun j hj => ⟨HNN.out j hj, HN.out j (by omega)⟩
    have HALL := Lib.hid hall; clear hall
    have HPL := Lib.hid (show ∀ j, j < k → plc (ns j) < 64 from fun j hj => plc_lt _ (HALL.out j hj).1 (HALL.out j hj).2)
    have HCB := Lib.hid (show ∀ j, 0 ≤ cnf ns k j ∧ cnf ns k j ≤ 1000000 from fun j => by have := cnf_bd ns k j; omega)
    by_cases hlt : k < n
    · obtain ⟨b1, o1, c1, he1, _, _, _, hc1⟩ := HV.out.shape (by omega)
      simp only [Value.slice.injEq, true_and] at he1
      obtain ⟨rfl, rfl⟩ := he1
      have K1 := Lib.hid (hc1 k hlt)
      have k1 := HF.out.cell K1.out (by simp)
      clear hc1
      have k0 : (0 : Int) ≤ (k : Int) := by omega
      have k3 : (k : Int) < (n : Int) := by omega
      by_cases hx : 0 ≤ ns k
      · have HX := Lib.hid hx; clear hx
        go_wp2_with fail
        refine (tal_add _ _ _ HT.out HCB.out (fun j hj => cnf_far ns k j HPL.out hj) (ns k) HX.out (HN.out k hlt)).mono ?_
        rintro e w2 ⟨g, m, rfl, hg, hT2, hf2⟩
        have HT2 := Lib.hid (show TalIs w2 _ (cnf ns (k + 1)) from hT2); clear hT2
        have HF2 := Lib.hid (HF.out.trans hf2 (by simp)); clear hf2
        clear k1
        go_wp2
        go_roundw
        case rel => exact ⟨k + 1, by omega, by go_num, HT2.out, Lib.hid (fun j hj => by
          by_cases h : j < k
          · exact HNN.out j h
          · obtain rfl : j = k := by omega
            exact HX.out), HF2.out⟩
        case measure => simp [intOf]; omega
      · have hneg : ns k < 0 := by omega
        clear hx
        go_wp2_with fail
        refine (tally_add_neg _ _ _ HT.out HCB.out (ns k) hneg).mono ?_
        rintro e w2 ⟨rfl, hf2⟩
        have k2 := hf2.cell k1 (by simp)
        have HF2 := Lib.hid (HF.out.trans hf2 (by simp)); clear hf2
        clear k1
        go_wp2
        go_ret
        exact ⟨by simp, HF2.out⟩
    · obtain rfl : k = n := by omega
      by_cases hp : 0 ≤ p ∧ p ≤ 100
      · by_cases h0 : k = 0
        · subst h0
          go_wp2_with fail
          refine (tally_bound_none _ _ _ HT.out HCB.out p hp (isum_zero 64)).mono ?_
          rintro e w2 ⟨rfl, hf2⟩
          have HF2 := Lib.hid (HF.out.trans hf2 (by simp)); clear hf2
          go_wp2
          go_ret
          exact ⟨rfl, HF2.out⟩
        · have hsum := isum_cnf_all ns k HPL.out
          go_wp2_with fail
          refine (tal_bound _ _ _ HT.out HCB.out p hp (by rw [hsum]; omega) (by rw [hsum]; omega)).mono ?_
          rintro e w2 ⟨i, hbnd, rfl, hf2⟩
          have HF2 := Lib.hid (HF.out.trans hf2 (by simp)); clear hf2
          unfold BndAt at hbnd
          rw [hsum] at hbnd
          obtain ⟨hi, hb1, hb2⟩ := hbnd
          have hc := bound_counts ns k i hi HALL.out
          have hpb := pow_bd i hi
          have hfin : (100 * cn (fun j => decide (ns j ≤ 2 ^ i - 1)) k ≥ p * k) ∧ (i = 0 ∨ 100 * cn (fun j => decide (ns j ≤ (2 ^ i - 1) / 2)) k < p * k) := by
            refine ⟨by rw [hc.1]; exact hb2, ?_⟩
            by_cases hi0 : i = 0
            · exact .inl hi0
            · right
              rw [hc.2 (by omega)]
              have := hb1 (i - 1) (by omega)
              rwa [show i - 1 + 1 = i by omega] at this
          have hzi : i = 0 → (2 : Int) ^ i - 1 = 0 := fun h => by subst h; rfl
          have HFIN := Lib.hid hfin
          have HZI := Lib.hid hzi
          clear hfin hzi hc hb1 hb2 hsum
          generalize hbb : (2 : Int) ^ i - 1 = b at *
          have hb : 0 ≤ b ∧ b ≤ 9223372036854775807 := by omega
          have HBB := Lib.hid hbb
          clear hbb hpb
          obtain ⟨P1, hP1⟩ : ∃ P1 : Nat → Bool, P1 = fun j => decide (ns j ≤ b) := ⟨_, rfl⟩
          obtain ⟨P2, hP2⟩ : ∃ P2 : Nat → Bool, P2 = fun j => decide (ns j ≤ b / 2) && decide (0 < b) := ⟨_, rfl⟩
          have HP1 := Lib.hid hP1
          have HP2 := Lib.hid hP2
          clear hP1 hP2
          go_wp2
          go_loopw [12, 13, 14] (fun x y t wr => ∃ (q : Nat), q ≤ k ∧ t = .int .i64 q ∧ x = .int .i64 (cn P1 q) ∧ y = .int .i64 (cn P2 q) ∧ wr = w2) (fun _ _ t _ => k - (intOf t).toNat)
          case atStart => exact ⟨0, by omega, rfl, rfl, rfl, rfl⟩
          case round =>
            obtain ⟨q, hq, rfl, rfl, rfl, rfl⟩ := hrel
            have cb1 := cn_bd P1 q
            have cb2 := cn_bd P2 q
            by_cases hlt : q < k
            · obtain ⟨b1, o1, c1, he1, _, _, _, hc1⟩ := HV.out.shape (by omega)
              simp only [Value.slice.injEq, true_and] at he1
              obtain ⟨rfl, rfl⟩ := he1
              have k1 := HF2.out.cell (hc1 q hlt) (by simp)
              clear hc1
              have k0 : (0 : Int) ≤ (q : Int) := by omega
              have k3 : (q : Int) < (k : Int) := by omega
              have e1 : cn P1 (q + 1) = cn P1 q + if ns q ≤ b then 1 else 0 := by
                show cn P1 q + (if P1 q = true then 1 else 0) = _
                rw [HP1.out]; simp
              have e2 : cn P2 (q + 1) = cn P2 q + if ns q ≤ b / 2 ∧ 0 < b then 1 else 0 := by
                show cn P2 q + (if P2 q = true then 1 else 0) = _
                rw [HP2.out]; simp
              have HE1 := Lib.hid e1
              have HE2 := Lib.hid e2
              clear e1 e2
              generalize cn P1 q = C1 at *
              generalize cn P2 q = C2 at *
              generalize ns q = z at *
              by_cases h1 : z ≤ b
              all_goals
                by_cases h2 : z ≤ b / 2
                all_goals
                  by_cases h3 : 0 < b
                  all_goals
                    have e1 := HE1.out
                    simp only [h1, if_true, if_false] at e1
                    have E1 := Lib.hid e1
                    clear e1
                    have e2 := HE2.out
                    simp only [h2, h3, and_self, and_true, true_and, and_false, false_and, if_true, if_false] at e2
                    have E2 := Lib.hid e2
                    clear e2
                    go_wp2
                    all_goals
                      go_roundw
                      case rel => exact ⟨q + 1, by omega, by go_num, by rw [E1.out]; try go_num, by rw [E2.out]; try go_num, by trivial⟩
                      case measure => simp [intOf]; omega
            · obtain rfl : q = k := by omega
              have hpq : 0 ≤ p * (q : Int) ∧ p * (q : Int) ≤ 10000 := ⟨Int.mul_nonneg hp.1 (by omega), by have h1 : p * (q : Int) ≤ 100 * 100 := Int.mul_le_mul hp.2 (by omega) (by omega) (by omega); omega⟩
              have f1 : p * (q : Int) ≤ 100 * cn P1 q := by rw [HP1.out]; exact HFIN.out.1
              have f2 : b = 0 ∨ (0 < b ∧ 100 * cn P2 q < p * (q : Int)) := by
                by_cases hb0 : b = 0
                · exact .inl hb0
                · right
                  refine ⟨by omega, ?_⟩
                  rcases HFIN.out.2 with h | h
                  · exact absurd (HZI.out h) hb0
                  · rw [HP2.out]
                    have : cn (fun j => decide (ns j ≤ b / 2) && decide (0 < b)) q = cn (fun j => decide (ns j ≤ b / 2)) q := cn_congr (fun j _ => by simp; omega)
                    rw [this]
                    exact h
              generalize cn P1 q = X at *
              generalize cn P2 q = Y at *
              rcases f2 with f2 | ⟨f2, f3⟩
              · subst f2
                go_wp2
                go_ret
                exact ⟨by simp, HF2.out⟩
              · have hbz : (b == 0) = false := by simp; omega
                go_wp2
                go_ret
                exact ⟨by simp, HF2.out⟩
      · have hp' : p < 0 ∨ (0 ≤ p ∧ 100 < p) := by omega
        go_wp2_with fail
        refine (tally_bound_bad _ _ _ HT.out HCB.out p hp').mono ?_
        rintro e w2 ⟨rfl, hf2⟩
        have HF2 := Lib.hid (HF.out.trans hf2 (by simp)); clear hf2 hp
        by_cases h0 : k = 0
        · subst h0
          clear hp'
          go_wp2
          go_ret
          exact ⟨rfl, HF2.out⟩
        · have h0' : ((k : Int) == 0) = false := by simp; omega
          rcases hp' with h | ⟨h, h2⟩
          all_goals
            go_wp2
            go_ret
            exact ⟨rfl, HF2.out⟩

end Go.Proofs.Ytgpfkaiinbncnaa
