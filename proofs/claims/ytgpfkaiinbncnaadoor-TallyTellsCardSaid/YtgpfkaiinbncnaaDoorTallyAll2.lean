/- tally: Count, Join, Bound with every fault. -/
import Derived.Test.YtgpfkaiinbncnaaDoorTallyAll
namespace Go.Proofs.YtgpfkaiinbncnaaDoor
open Go.RowKit

theorem isum_congr {f g : Nat → Int} : ∀ (k : Nat), (∀ j, j < k → f j = g j) → isum f k = isum g k
  | 0, _ => rfl
  | k + 1, h => by
    show isum f k + f k = isum g k + g k
    rw [isum_congr k (fun j hj => h j (by omega)), h k (by omega)]

theorem isum_pl_le (n : Nat) (f : Nat → Int) (k : Nat) (hk : k ≤ n) : isum (pl64 n f) k = isum f k :=
  isum_congr k fun j hj => by unfold pl64; rw [if_pos (by omega)]

theorem isum_pl_all (n : Nat) (f : Nat → Int) : ∀ k, n ≤ k → isum (pl64 n f) k = isum f n := by
  intro k hk
  induction k with
  | zero => have : n = 0 := by omega
            subst this; rfl
  | succ k ih =>
    by_cases h : n = k + 1
    · rw [h]
      exact isum_pl_le (k + 1) f (k + 1) (Nat.le_refl _)
    · show isum (pl64 n f) k + pl64 n f k = isum f n
      rw [ih (by omega)]
      unfold pl64
      rw [if_neg (by omega)]
      omega

def cntV (n : Nat) (f : Nat → Int) : Int := if tfault n f = 0 then isum f n else 0

set_option maxHeartbeats 2000000 in
theorem count_all (w : World) (v : Value) (n : Nat) (f : Nat → Int) (hv : RdF w v n (fun j => .int .i64 (f j))) :
    Calls Tryd.prog 26 #[v] w fun e w' => e = .returned (.tuple #[.int .i64 (cntV n f), errOf (eo (tfault n f))]) ∧ Fr [] w w' := by
  have HV := Lib.hid hv; clear hv
  by_cases ht : tfault n f = 0
  · have hok := tfault_ok ht
    have HOK := Lib.hid hok; clear hok
    have ec : cntV n f = isum (pl64 n f) 64 := by unfold cntV; rw [if_pos ht, isum_pl_all n f 64 HOK.out.1]
    rw [ht, ec]
    clear ht ec
    go_enter Tryd.func26, Tryd.ntmps26
    go_wp2_with fail
    refine (checked_any _ v n f HV.out HOK.out.1 HOK.out.2).mono ?_
    rintro e w1 ⟨g, cap, rfl, hg, hr1, hf1⟩
    have HF1 := Lib.hid hf1; clear hf1
    have HR1 := Lib.hid hr1; clear hr1
    have HQ := Lib.hid (pl64_bd HOK.out.2)
    go_wp2_with fail
    refine (count_any _ g 64 cap (pl64 n f) HR1.out (by omega) (fun j hj => HQ.out j) cap).mono ?_
    rintro e w2 ⟨rfl, rfl⟩
    go_wp2
    go_ret2
    exact ⟨rfl, HF1.out⟩
  · have ec : cntV n f = 0 := by unfold cntV; rw [if_neg ht]
    have ee : eo (tfault n f) = some (tfault n f) := by unfold eo; rw [if_neg ht]
    rw [ec, ee]
    have HCK := Lib.hid (checked_bad w v n f HV.out ht)
    clear ht ec ee
    generalize tfault n f = K at *
    unfold errOf at HCK ⊢
    go_enter Tryd.func26, Tryd.ntmps26
    go_wp2_with fail
    refine Calls.mono HCK.out ?_
    rintro e w1 ⟨rfl, rfl⟩
    go_wp2
    go_ret2
    exact ⟨rfl, Fr.refl _ _⟩

/-- both at a place -/
def bth (n : Nat) (f : Nat → Int) (m : Nat) (g : Nat → Int) (j : Nat) : Int := pl64 n f j + pl64 m g j
def joinK (n : Nat) (f : Nat → Int) (m : Nat) (g : Nat → Int) : Int := if tfault n f = 0 then (if tfault m g = 0 then tk (bth n f m g) else tfault m g) else tfault n f

set_option maxRecDepth 100000 in
set_option maxHeartbeats 2000000 in
theorem join_all (w : World) (v u : Value) (n : Nat) (f : Nat → Int) (m : Nat) (g : Nat → Int) (hv : RdF w v n (fun j => .int .i64 (f j))) (hu : RdF w u m (fun j => .int .i64 (g j))) :
    Calls Tryd.prog 28 #[v, u] w fun e w' => ∃ x, e = .returned (.tuple #[x, errOf (eo (joinK n f m g))]) ∧ RdF w' x (tl (joinK n f m g) (bth n f m g)) (fun j => .int .i64 (bth n f m g j)) ∧ Fr [] w w' := by
  have H := Lib.hid hv; clear hv
  have K := Lib.hid hu; clear hu
  by_cases ht : tfault n f = 0
  · have hok := tfault_ok ht
    have HOK := Lib.hid hok; clear hok
    by_cases ht2 : tfault m g = 0
    · have hok2 := tfault_ok ht2
      have HOK2 := Lib.hid hok2; clear hok2
      have ej : joinK n f m g = tk (bth n f m g) := by unfold joinK; rw [if_pos ht, if_pos ht2]
      rw [ej]
      clear ht ht2 ej
      have HQ1 := Lib.hid (pl64_bd HOK.out.2)
      have HQ2 := Lib.hid (pl64_bd HOK2.out.2)
      have HC1 := Lib.hid (fun w h => checked_any w v n f h HOK.out.1 HOK.out.2)
      have HC2 := Lib.hid (fun w h => checked_any w u m g h HOK2.out.1 HOK2.out.2)
      have hbe : ∀ j, bth n f m g j = pl64 n f j + pl64 m g j := fun j => rfl
      have HBE := Lib.hid hbe; clear hbe
      generalize hF : pl64 n f = F at *
      generalize hG : pl64 m g = G at *
      generalize hB : bth n f m g = B at *
      have HB := Lib.hid hB; clear hB hF hG
      have HBB := Lib.hid (show ∀ j, 0 ≤ B j ∧ B j ≤ 4503599627370496 from fun j => by have := HQ1.out j; have := HQ2.out j; rw [HBE.out j]; omega)
      go_enter Tryd.func28, Tryd.ntmps28
      go_wp2_with fail
      refine (HC1.out _ H.out).mono ?_
      rintro e w1 ⟨g1, cap, rfl, hg, hr1, hf1⟩
      have HK := Lib.hid (K.out.fr hf1 (by simp))
      have HF1 := Lib.hid hf1
      have HR1 := Lib.hid hr1; clear hr1
      go_wp2_with fail
      refine (HC2.out _ HK.out).mono ?_
      rintro e w2 ⟨g2, cap2, rfl, hg2, hr2, hf2⟩
      have hlt := HR1.out.lt
      have HR2 := Lib.hid hr2; clear hr2
      have HR3 := Lib.hid (HR1.out.kept hf2 (by simp))
      have HF2 := Lib.hid (HF1.out.trans hf2 (by simp))
      clear hf1 hf2
      have hne : g1 ≠ g2 := by omega
      have HNE := Lib.hid hne; clear hne
      go_wp2
      go_loopw [29] (fun i wr => ∃ q : Nat, q ≤ 64 ∧ i = .int .i64 q ∧ RowI wr g1 64 cap (fun j => if j < q then F j + G j else F j) ∧ RowI wr g2 64 cap2 G ∧ Fr [] w wr) (fun i _ => 64 - (intOf i).toNat)
      case atStart => exact ⟨0, by omega, rfl, HR3.out.congr (fun j hj => by simp), HR2.out, HF2.out⟩
      case round =>
        obtain ⟨q, hq, rfl, ha, hb, hf⟩ := hrel
        by_cases hlt : q < 64
        · have x1 := ha.cell q hlt
          simp only [Nat.lt_irrefl, if_false] at x1
          have x2 := hb.cell q hlt
          have f1 := ha.frozen q
          have b1 := HQ1.out q
          have b2 := HQ2.out q
          have hs := (ha.stored q (.int .i64 (F q + G q))).congr (f' := fun j => .int .i64 (if j < q + 1 then F j + G j else F j)) (fun j hj => by
            by_cases h1 : j = q
            · subst h1; simp
            · by_cases h2 : j < q
              · simp [h1, h2, show j < q + 1 by omega]
              · simp [h1, h2, show ¬ j < q + 1 by omega])
          have hs2 := hb.kept ((Fr.refl [g1] wr).setCell (p := ⟨g1, q, none⟩) (by simp) (.int .i64 (F q + G q))) (by simpa using HNE.out.symm)
          have HS := Lib.hid hs
          have HS2 := Lib.hid hs2
          have HFF := Lib.hid (hf.setCell (p := ⟨g1, q, none⟩) (.inr hg) (.int .i64 (F q + G q)))
          clear ha hb hs hs2 hf
          have q0 : (0 : Int) ≤ (q : Int) := by omega
          have q3 : (q : Int) < 64 := by omega
          go_wp2
          go_roundw
          case rel => exact ⟨q + 1, by omega, by go_num, HS.out, HS2.out, HFF.out⟩
          case measure => simp [intOf]; omega
        · obtain rfl : q = 64 := by omega
          have HS := Lib.hid (ha.congr (f' := fun j => .int .i64 (B j)) (fun j hj => by rw [HBE.out j]; simp only [if_pos hj]))
          have HFF := Lib.hid hf
          clear ha hb hf
          go_wp2_with fail
          refine (told_all _ g1 cap B HS.out HBB.out).mono ?_
          rintro e w3 ⟨x, rfl, hx, rfl⟩
          have HX := Lib.hid hx; clear hx
          go_wp2
          go_ret2
          exact ⟨x, rfl, HX.out, HFF.out⟩
    · have ej : joinK n f m g = tfault m g := by unfold joinK; rw [if_pos ht, if_neg ht2]
      have el : tl (joinK n f m g) (bth n f m g) = 0 := by unfold tl; rw [if_neg (by omega)]
      have ee : eo (tfault m g) = some (tfault m g) := by unfold eo; rw [if_neg ht2]
      rw [el, ej, ee]
      have HC1 := Lib.hid (checked_any w v n f H.out HOK.out.1 HOK.out.2)
      have HC2 := Lib.hid (fun w h => checked_bad w u m g h ht2)
      clear ht ht2 el ej ee
      generalize tfault m g = X at *
      unfold errOf at HC2 ⊢
      go_enter Tryd.func28, Tryd.ntmps28
      go_wp2_with fail
      refine (HC1.out).mono ?_
      rintro e w1 ⟨g1, cap, rfl, hg, hr1, hf1⟩
      have HK := Lib.hid (K.out.fr hf1 (by simp))
      have HF1 := Lib.hid hf1
      clear hf1 hr1
      go_wp2_with fail
      refine (HC2.out _ HK.out).mono ?_
      rintro e w2 ⟨rfl, rfl⟩
      go_wp2
      go_ret2
      exact ⟨.slice none 0 0, rfl, RdF.nilv, HF1.out⟩
  · have ej : joinK n f m g = tfault n f := by unfold joinK; rw [if_neg ht]
    have el : tl (joinK n f m g) (bth n f m g) = 0 := by unfold tl; rw [if_neg (by omega)]
    have ee : eo (tfault n f) = some (tfault n f) := by unfold eo; rw [if_neg ht]
    rw [el, ej, ee]
    have HC1 := Lib.hid (checked_bad w v n f H.out ht)
    clear ht el ej ee
    generalize tfault n f = X at *
    unfold errOf at HC1 ⊢
    go_enter Tryd.func28, Tryd.ntmps28
    go_wp2_with fail
    refine (HC1.out).mono ?_
    rintro e w1 ⟨rfl, rfl⟩
    go_wp2
    go_ret2
    exact ⟨.slice none 0 0, rfl, RdF.nilv, Fr.refl _ _⟩

def bndK (n : Nat) (f : Nat → Int) (p : Int) : Int := if tfault n f = 0 then (if 0 ≤ p ∧ p ≤ 100 then (if isum f n = 0 then 9 else 0) else 6) else tfault n f

/-- the value that Bound tells -/
def BndV (n : Nat) (f : Nat → Int) (p : Int) (x : Int) : Prop := if bndK n f p = 0 then ∃ i, BndAt (pl64 n f) p i ∧ x = 2 ^ i - 1 else x = 0

theorem BndAt.uniq {F : Nat → Int} {p : Int} {i k : Nat} (h : BndAt F p i) (h' : BndAt F p k) : i = k := by
  by_cases h1 : i < k
  · have := h'.2.1 i h1
    have := h.2.2
    omega
  · by_cases h2 : k < i
    · have := h.2.1 k h2
      have := h'.2.2
      omega
    · omega

theorem BndV.uniq {n : Nat} {f : Nat → Int} {p x y : Int} (h : BndV n f p x) (h' : BndV n f p y) : x = y := by
  unfold BndV at h h'
  by_cases hb : bndK n f p = 0
  · rw [if_pos hb] at h h'
    obtain ⟨i, h1, rfl⟩ := h
    obtain ⟨k, h2, rfl⟩ := h'
    rw [h1.uniq h2]
  · rw [if_neg hb] at h h'
    rw [h, h']

set_option maxRecDepth 100000 in
set_option maxHeartbeats 2000000 in
theorem bound_all (w : World) (v : Value) (n : Nat) (f : Nat → Int) (hv : RdF w v n (fun j => .int .i64 (f j))) (p : Int) :
    Calls Tryd.prog 27 #[v, .int .i64 p] w fun e w' => ∃ x, BndV n f p x ∧ e = .returned (.tuple #[.int .i64 x, errOf (eo (bndK n f p))]) ∧ Fr [] w w' := by
  have HV := Lib.hid hv; clear hv
  by_cases ht : tfault n f = 0
  · have hok := tfault_ok ht
    have HOK := Lib.hid hok; clear hok
    have HC1 := Lib.hid (checked_any w v n f HV.out HOK.out.1 HOK.out.2)
    by_cases hp : 0 ≤ p ∧ p ≤ 100
    · have HQ := Lib.hid (pl64_bd HOK.out.2)
      have hsum := isum_pl_all n f 64 HOK.out.1
      by_cases hs : isum f n = 0
      · have ek : bndK n f p = 9 := by unfold bndK; rw [if_pos ht, if_pos hp, if_pos hs]
        have HBV := Lib.hid (show BndV n f p 0 by unfold BndV; rw [if_neg (by omega)])
        rw [ek]
        rw [hs] at hsum
        have HSUM := Lib.hid hsum
        clear ht hs ek hsum
        go_enter Tryd.func27, Tryd.ntmps27
        go_wp2_with fail
        refine HC1.out.mono ?_
        rintro e w1 ⟨g, cap, rfl, hg, hr1, hf1⟩
        have HF1 := Lib.hid hf1; clear hf1
        have HR1 := Lib.hid hr1; clear hr1
        go_wp2_with fail
        refine (count_any _ g 64 cap (pl64 n f) HR1.out (by omega) (fun j hj => HQ.out j) cap).mono ?_
        rintro e w2 ⟨rfl, rfl⟩
        rw [HSUM.out]
        go_wp2
        go_ret2
        exact ⟨0, HBV.out, rfl, HF1.out⟩
      · have ek : bndK n f p = 0 := by unfold bndK; rw [if_pos ht, if_pos hp, if_neg hs]
        have HBV := Lib.hid (show ∀ i, BndAt (pl64 n f) p i → BndV n f p (2 ^ i - 1) from fun i hi => by unfold BndV; rw [if_pos ek]; exact ⟨i, hi, rfl⟩)
        rw [ek]
        have hs1 : isum (pl64 n f) 64 ≠ 0 := by rw [hsum]; exact hs
        have hbd0 := isum_bd (pl64 n f) 64 (fun j _ => HQ.out j)
        clear ht hs ek hsum
        generalize hF : pl64 n f = F at *
        clear hF
        go_enter Tryd.func27, Tryd.ntmps27
        go_wp2_with fail
        refine HC1.out.mono ?_
        rintro e w1 ⟨g, cap, rfl, hg, hr1, hf1⟩
        have hcap := hr1.le
        have hcm := hr1.cap_le
        unfold maxLen at hcm
        have HF1 := Lib.hid hf1; clear hf1
        have HR1 := Lib.hid hr1; clear hr1
        go_wp2_with fail
        refine (count_any _ g 64 cap F HR1.out (by omega) (fun j hj => HQ.out j) cap).mono ?_
        rintro e w2 ⟨rfl, rfl⟩
        have hall : ((isum F 64 : Int) == 0) = false := by simp; omega
        have P1 : 0 ≤ p * isum F 64 ∧ p * isum F 64 ≤ 100 * isum F 64 := ⟨Int.mul_nonneg hp.1 (by omega), Int.mul_le_mul_of_nonneg_right hp.2 (by omega)⟩
        have PW := Lib.hid P1
        go_wp2
        go_loopw [9] (fun i wr => ∃ k : Nat, k ≤ 63 ∧ i = .int .i64 k ∧ Hid (∀ j, j < k → 100 * isum F (j + 1) < p * isum F 64) ∧ wr = w2) (fun i _ => 64 - (intOf i).toNat)
        case atStart => exact ⟨0, by omega, rfl, Lib.hid (fun j hj => by omega), rfl⟩
        case round =>
          obtain ⟨k, hk, rfl, HK, rfl⟩ := hrel
          have k0 : (0 : Int) ≤ (k : Int) := by omega
          have hk1 : (k : Int) + 1 ≤ (cap : Int) := by omega
          have hbd : 0 ≤ isum F (k + 1) ∧ isum F (k + 1) ≤ isum F 64 := ⟨isum_mono F (fun j => (HQ.out j).1) 0 (k + 1) (by omega), isum_mono F (fun j => (HQ.out j).1) (k + 1) 64 (by omega)⟩
          have HCO := Lib.hid (count_any wr g (k + 1) cap F (HR1.out.take (k + 1) (by omega)) (by omega) (fun j hj => HQ.out j) cap)
          by_cases hlt : 100 * isum F (k + 1) < p * isum F 64
          · have hk2 : k + 1 ≤ 63 := by
              by_cases h : k = 63
              · subst h
                have h64 : isum F (63 + 1) = isum F 64 := rfl
                omega
              · omega
            go_wp2_with fail
            refine Calls.mono HCO.out ?_
            rintro e w3 ⟨rfl, rfl⟩
            go_wp2
            go_roundw
            case rel => exact ⟨k + 1, by omega, by go_num, Lib.hid (fun j hj => by
              by_cases h : j < k
              · exact HK.out j h
              · obtain rfl : j = k := by omega
                exact hlt), by trivial⟩
            case measure => simp [intOf]; omega
          · have HLT := Lib.hid hlt
            go_wp2_with fail
            refine Calls.mono HCO.out ?_
            rintro e w3 ⟨rfl, rfl⟩
            go_wp2
            go_ret2
            refine ⟨2 ^ k - 1, HBV.out k ⟨by omega, HK.out, by have := HLT.out; omega⟩, ?_, HF1.out⟩
            rw [← pow_wrap k hk]; rfl
    · have ek : bndK n f p = 6 := by unfold bndK; rw [if_pos ht, if_neg hp]
      have HBV := Lib.hid (show BndV n f p 0 by unfold BndV; rw [if_neg (by omega)])
      rw [ek]
      clear ht ek
      rcases (by omega : p < 0 ∨ (¬ p < 0 ∧ 100 < p)) with h1 | ⟨h1, h2⟩
      all_goals
        go_enter Tryd.func27, Tryd.ntmps27
        go_wp2_with fail
        refine HC1.out.mono ?_
        rintro e w1 ⟨g, cap, rfl, hg, hr1, hf1⟩
        have HF1 := Lib.hid hf1; clear hf1 hr1
        go_wp2
        go_ret2
        exact ⟨0, HBV.out, rfl, HF1.out⟩
  · have ek : bndK n f p = tfault n f := by unfold bndK; rw [if_neg ht]
    have HBV := Lib.hid (show BndV n f p 0 by unfold BndV; rw [if_neg (by omega)])
    have ee : eo (tfault n f) = some (tfault n f) := by unfold eo; rw [if_neg ht]
    rw [ek, ee]
    have HC1 := Lib.hid (checked_bad w v n f HV.out ht)
    clear ht ek ee
    generalize tfault n f = X at *
    unfold errOf at HC1 ⊢
    go_enter Tryd.func27, Tryd.ntmps27
    go_wp2_with fail
    refine (HC1.out).mono ?_
    rintro e w1 ⟨rfl, rfl⟩
    go_wp2
    go_ret2
    exact ⟨0, HBV.out, rfl, Fr.refl _ _⟩

end Go.Proofs.YtgpfkaiinbncnaaDoor
