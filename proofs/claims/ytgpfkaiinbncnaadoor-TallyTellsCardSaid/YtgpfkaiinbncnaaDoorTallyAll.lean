/- tally: every call, with every fault. -/
import Derived.Test.YtgpfkaiinbncnaaDoorTally
import Derived.Test.YtgpfkaiinbncnaaDoorAs
namespace Go.Proofs.YtgpfkaiinbncnaaDoor
open Go.RowKit

/-- the fault of a tally, as a number: 0 is none -/
def tfault (n : Nat) (f : Nat → Int) : Int := if 64 < n then 7 else if (∀ j, j < n → 0 ≤ f j ∧ f j ≤ 1125899906842624) then 0 else 6

theorem tfault_ok {n : Nat} {f : Nat → Int} (h : tfault n f = 0) : n ≤ 64 ∧ ∀ j, j < n → 0 ≤ f j ∧ f j ≤ 1125899906842624 := by
  unfold tfault at h
  by_cases h1 : 64 < n
  · rw [if_pos h1] at h; omega
  · rw [if_neg h1] at h
    by_cases h2 : ∀ j, j < n → 0 ≤ f j ∧ f j ≤ 1125899906842624
    · exact ⟨by omega, h2⟩
    · rw [if_neg h2] at h; omega

/-- a number of a fault, as an error -/
def eo (k : Int) : Option Int := if k = 0 then none else some k

theorem numOf_eo (k : Int) : decide (numOf (eo k) = k) = true := by
  unfold eo
  by_cases h : k = 0
  · subst h; rfl
  · rw [if_neg h]; simp [numOf]

/-- too many at a place? -/
def tkN (n : Nat) (F : Nat → Int) : Int := if (∀ j, j < n → F j ≤ 1125899906842624) then 0 else 7
def tk (F : Nat → Int) : Int := tkN 64 F
def tl (K : Int) (F : Nat → Int) : Nat := if K = 0 then trm F 64 else 0

set_option maxHeartbeats 2000000 in
theorem checked_bad (w : World) (v : Value) (n : Nat) (f : Nat → Int) (hv : RdF w v n (fun j => .int .i64 (f j))) (h : tfault n f ≠ 0) :
    Calls Tryd.prog 50 #[v] w fun e w' => e = .returned (.tuple #[.slice none 0 0, errOf (some (tfault n f))]) ∧ w' = w := by
  obtain ⟨a, c, rfl⟩ := hv.slice
  have HV := Lib.hid hv; clear hv
  by_cases h1 : 64 < n
  · have e7 : tfault n f = 7 := by unfold tfault; rw [if_pos h1]
    rw [e7]
    clear h e7
    go_enter Tryd.func50, Tryd.ntmps50
    go_wp2
    go_ret2
    exact ⟨rfl, rfl⟩
  · have e6 : tfault n f = 6 ∧ ¬ ∀ j, j < n → 0 ≤ f j ∧ f j ≤ 1125899906842624 := by
      unfold tfault at h ⊢
      rw [if_neg h1] at h ⊢
      by_cases h2 : ∀ j, j < n → 0 ≤ f j ∧ f j ≤ 1125899906842624
      · rw [if_pos h2] at h; exact absurd rfl h
      · rw [if_neg h2]; exact ⟨rfl, h2⟩
    have HNO := Lib.hid e6.2
    rw [e6.1]
    clear h e6
    go_enter Tryd.func50, Tryd.ntmps50
    go_wp2
    go_loopw [12] (fun i wr => ∃ k : Nat, k ≤ n ∧ i = .int .i64 k ∧ Hid (∀ j, j < k → 0 ≤ f j ∧ f j ≤ 1125899906842624) ∧ wr = w) (fun i _ => n - (intOf i).toNat)
    case atStart => exact ⟨0, by omega, rfl, Lib.hid (fun j hj => by omega), rfl⟩
    case round =>
      obtain ⟨k, hk, rfl, HG, rfl⟩ := hrel
      by_cases hlt : k < n
      · obtain ⟨b1, o1, c1, he1, _, _, _, hc1⟩ := HV.out.shape (by omega)
        simp only [Value.slice.injEq, true_and] at he1
        obtain ⟨rfl, rfl⟩ := he1
        have k1 := hc1 k hlt
        clear hc1
        have k0 : (0 : Int) ≤ (k : Int) := by omega
        have k3 : (k : Int) < (n : Int) := by omega
        by_cases hn0 : f k < 0
        · go_wp2
          go_ret2
          exact ⟨rfl, rfl⟩
        · by_cases hn1 : 1125899906842624 < f k
          · go_wp2
            go_ret2
            exact ⟨rfl, rfl⟩
          · have hgood : ∀ j, j < k + 1 → 0 ≤ f j ∧ f j ≤ 1125899906842624 := fun j hj => by
              by_cases hjk : j < k
              · exact HG.out j hjk
              · rw [show j = k by omega]; omega
            have HG2 := Lib.hid hgood; clear hgood
            go_wp2
            go_roundw
            case rel => exact ⟨k + 1, by omega, by go_num, HG2, by trivial⟩
            case measure => simp [intOf]; omega
      · obtain rfl : k = n := by omega
        exact absurd HG.out HNO.out

set_option maxRecDepth 100000 in
set_option maxHeartbeats 2000000 in
theorem told_bad (w : World) (g cap : Nat) (f : Nat → Int) (hr : RowI w g 64 cap f) (hb : ∀ j, 0 ≤ f j ∧ f j ≤ 4503599627370496) (h : ¬ ∀ j, j < 64 → f j ≤ 1125899906842624) :
    Calls Tryd.prog 52 #[.slice (some ⟨g, 0, none⟩) 64 cap] w fun e w' => e = .returned (.tuple #[.slice none 0 0, errOf (some 7)]) ∧ w' = w := by
  have hcap := hr.le
  have hcm := hr.cap_le
  unfold maxLen at hcm
  have HR := Lib.hid hr; clear hr
  have HB := Lib.hid hb; clear hb
  have HNO := Lib.hid h; clear h
  go_enter Tryd.func52, Tryd.ntmps52
  go_wp2
  go_loopw [4] (fun i wr => ∃ k : Nat, k ≤ 64 ∧ i = .int .i64 k ∧ wr = w) (fun i _ => (intOf i).toNat)
  case atStart => exact ⟨64, by omega, rfl, rfl⟩
  case round =>
    obtain ⟨k, hk, rfl, rfl⟩ := hrel
    by_cases hz : k = 0 ∨ (0 < k ∧ f (k - 1) ≠ 0)
    · rcases hz with h1 | ⟨h1, h2⟩
      case' inl => subst h1
      case' inr => have x1 := HR.out.cell (k - 1) (by omega)
      case' inr => have h3 : (f (k - 1) == 0) = false := by simpa using h2
      case' inr => have h4 : (0 : Int) < (k : Int) := by omega
      case' inr => clear h2
      all_goals
        go_wp2_with (go_in)
        go_loopw [8] (fun i wx => ∃ t : Nat, t ≤ 64 ∧ i = .int .i64 t ∧ Hid (∀ j, j < t → f j ≤ 1125899906842624) ∧ wx = wr) (fun i _ => 64 - (intOf i).toNat)
        case atStart => exact ⟨0, by omega, rfl, Lib.hid (fun j hj => by omega), rfl⟩
        case round =>
          obtain ⟨t, ht, rfl, HT, rfl⟩ := hrel
          by_cases hlt : t < 64
          · have y1 := HR.out.cell t hlt
            have bd := HB.out t
            have t0 : (0 : Int) ≤ (t : Int) := by omega
            have t3 : (t : Int) < 64 := by omega
            by_cases hbig : 1125899906842624 < f t
            · have n1 : decide (1125899906842624 < f t) = true := by simp; omega
              go_wp2_with (go_in)
              go_ret2
              exact ⟨rfl, rfl⟩
            · have n1 : decide (1125899906842624 < f t) = false := by simp; omega
              have HT2 := Lib.hid (show ∀ j, j < t + 1 → f j ≤ 1125899906842624 from fun j hj => by
                by_cases hjk : j < t
                · exact HT.out j hjk
                · rw [show j = t by omega]; omega)
              go_wp2_with (go_in)
              go_roundw
              case rel => exact ⟨t + 1, by omega, by go_num, HT2, by trivial⟩
              case measure => simp [intOf]; omega
          · obtain rfl : t = 64 := by omega
            exact absurd HT.out HNO.out
    · obtain ⟨j, rfl⟩ : ∃ j, k = j + 1 := ⟨k - 1, by omega⟩
      have hfz : f j = 0 := by
        by_cases h : f j = 0
        · exact h
        · exact absurd (.inr ⟨by omega, by simpa using h⟩) hz
      have x1 := HR.out.cell j (by omega)
      rw [hfz] at x1
      have e1 : ((j : Int) + 1) - 1 = (j : Int) := by omega
      clear hz hfz
      go_wp2
      go_roundw
      case rel => exact ⟨j, by omega, by go_num, by trivial⟩
      case measure => simp [intOf]

/-- told, whatever the places hold -/
theorem told_all (w : World) (g cap : Nat) (f : Nat → Int) (hr : RowI w g 64 cap f) (hb : ∀ j, 0 ≤ f j ∧ f j ≤ 4503599627370496) :
    Calls Tryd.prog 52 #[.slice (some ⟨g, 0, none⟩) 64 cap] w fun e w' => ∃ v, e = .returned (.tuple #[v, errOf (eo (tk f))]) ∧ RdF w v (tl (tk f) f) (fun j => .int .i64 (f j)) ∧ w' = w := by
  by_cases h : ∀ j, j < 64 → f j ≤ 1125899906842624
  · have e0 : tk f = 0 := by unfold tk tkN; rw [if_pos h]
    have el : tl (tk f) f = trm f 64 := by unfold tl; rw [if_pos e0]
    rw [el, e0]
    refine (tally_told w g cap f hr (fun j hj => ⟨(hb j).1, h j hj⟩)).mono ?_
    rintro e w' ⟨rfl, rfl⟩
    have hle := trm_le f 64
    exact ⟨_, rfl, .inr ⟨_, _, rfl, Nat.le_refl _, by unfold maxLen; omega, fun j hj => by
      have e : (⟨g, 0, none⟩ : Addr).add j = ⟨g, j, none⟩ := by unfold Addr.add; split <;> simp_all
      rw [e]; exact hr.cell j (by omega)⟩, rfl⟩
  · have e7 : tk f = 7 := by unfold tk tkN; rw [if_neg h]
    have el : tl (tk f) f = 0 := by unfold tl; rw [if_neg (by omega)]
    rw [el, e7]
    refine (told_bad w g cap f hr hb h).mono ?_
    rintro e w' ⟨rfl, rfl⟩
    exact ⟨_, rfl, .inl ⟨rfl, rfl⟩, rfl⟩

theorem RdF.nilv {w : World} {f : Nat → Value} : RdF w (.slice none 0 0) 0 f := .inl ⟨rfl, rfl⟩

/-- one more at x's place -/
def inc (n : Nat) (f : Nat → Int) (x : Int) (j : Nat) : Int := if j = plc x then pl64 n f j + 1 else pl64 n f j
def addK (n : Nat) (f : Nat → Int) (x : Int) : Int := if tfault n f = 0 then (if x < 0 then 6 else tk (inc n f x)) else tfault n f

theorem pl64_bd {n : Nat} {f : Nat → Int} (h : ∀ j, j < n → 0 ≤ f j ∧ f j ≤ 1125899906842624) (j : Nat) : 0 ≤ pl64 n f j ∧ pl64 n f j ≤ 1125899906842624 := by
  unfold pl64
  by_cases hj : j < n
  · rw [if_pos hj]; exact h j hj
  · rw [if_neg hj]; omega

set_option maxRecDepth 100000 in
set_option maxHeartbeats 2000000 in
theorem add_all (w : World) (v : Value) (n : Nat) (f : Nat → Int) (hv : RdF w v n (fun j => .int .i64 (f j))) (x : Int) (hx1 : x ≤ 9223372036854775807) :
    Calls Tryd.prog 23 #[v, .int .i64 x] w fun e w' => ∃ u, e = .returned (.tuple #[u, errOf (eo (addK n f x))]) ∧ RdF w' u (tl (addK n f x) (inc n f x)) (fun j => .int .i64 (inc n f x j)) ∧ Fr [] w w' := by
  have HV := Lib.hid hv; clear hv
  by_cases ht : tfault n f = 0
  · have hok := tfault_ok ht
    have HOK := Lib.hid hok; clear hok
    by_cases hx : x < 0
    · have e6 : addK n f x = 6 := by unfold addK; rw [if_pos ht, if_pos hx]
      have el : tl (addK n f x) (inc n f x) = 0 := by unfold tl; rw [if_neg (by omega)]
      rw [el, e6]
      clear ht e6 el
      go_enter Tryd.func23, Tryd.ntmps23
      go_wp2_with fail
      refine (checked_any _ v n f HV.out HOK.out.1 HOK.out.2).mono ?_
      rintro e w1 ⟨g, cap, rfl, hg, hr1, hf1⟩
      have HF1 := Lib.hid hf1; clear hf1 hr1
      go_wp2
      go_ret2
      exact ⟨_, rfl, RdF.nilv, HF1.out⟩
    · have ea : addK n f x = tk (inc n f x) := by unfold addK; rw [if_pos ht, if_neg hx]
      rw [ea]
      clear ht ea
      have hp := plc_lt x (by omega) hx1
      go_enter Tryd.func23, Tryd.ntmps23
      go_wp2_with fail
      refine (checked_any _ v n f HV.out HOK.out.1 HOK.out.2).mono ?_
      rintro e w1 ⟨g, cap, rfl, hg, hr1, hf1⟩
      have HF1 := Lib.hid hf1; clear hf1
      have HQ := Lib.hid (pl64_bd HOK.out.2)
      have hbp := HQ.out (plc x)
      have k1 := hr1.cell (plc x) hp
      have k2 := hr1.frozen (plc x)
      have p0 : (0 : Int) ≤ ((plc x : Nat) : Int) := by omega
      have p3 : ((plc x : Nat) : Int) < 64 := by omega
      have hs := (hr1.stored (plc x) (.int .i64 (pl64 n f (plc x) + 1))).congr (f' := fun j => .int .i64 (inc n f x j)) (fun j hj => by
        unfold inc
        by_cases h : j = plc x
        · rw [if_pos h, if_pos h, h]
        · rw [if_neg h, if_neg h])
      have HS := Lib.hid hs; clear hs hr1
      have HF2 := Lib.hid (HF1.out.setCell (p := ⟨g, plc x, none⟩) (.inr hg) (.int .i64 (pl64 n f (plc x) + 1)))
      have HLEN := Lib.hid (show Calls Tryd.prog 51 #[.int .u64 x] w1 fun e w' => e = .returned (.int .i64 ((plc x : Nat) : Int)) ∧ w' = w1 from bits_Len x w1 (by omega) (by omega))
      have hwr : x % 18446744073709551616 = x := by omega
      have HIB := Lib.hid (show ∀ j, 0 ≤ inc n f x j ∧ inc n f x j ≤ 4503599627370496 from fun j => by
        unfold inc
        have := HQ.out j
        split <;> omega)
      generalize hGG : inc n f x = G at *
      have HGG := Lib.hid hGG; clear hGG
      go_wp2_with fail
      refine Calls.mono HLEN.out ?_
      rintro e w2 ⟨rfl, rfl⟩
      generalize hpp : plc x = pp at *
      clear hpp
      go_wp2_with fail
      refine (told_all _ g cap G HS.out HIB.out).mono ?_
      rintro e w3 ⟨u, rfl, hu, rfl⟩
      clear k1 k2
      have HU := Lib.hid hu; clear hu
      go_wp2
      go_ret2
      rw [HGG.out]
      exact ⟨u, rfl, HU.out, HF2.out⟩
  · have ea : addK n f x = tfault n f := by unfold addK; rw [if_neg ht]
    have el : tl (addK n f x) (inc n f x) = 0 := by unfold tl; rw [if_neg (by omega)]
    rw [el, ea]
    have ee : eo (tfault n f) = some (tfault n f) := by unfold eo; rw [if_neg ht]
    rw [ee]
    have HCK := Lib.hid (checked_bad w v n f HV.out ht)
    clear ht ea el ee
    generalize tfault n f = K at *
    unfold errOf at HCK ⊢
    go_enter Tryd.func23, Tryd.ntmps23
    go_wp2_with fail
    refine Calls.mono HCK.out ?_
    rintro e w1 ⟨rfl, rfl⟩
    go_wp2
    go_ret2
    exact ⟨.slice none 0 0, rfl, RdF.nilv, Fr.refl _ _⟩

end Go.Proofs.YtgpfkaiinbncnaaDoor
