/- tally: checked, told, Add, count, Bound: what each does to tallies without a fault. -/
import Derived.Test.YtgpfkaiinbncnaaDoorClone
import Derived.Test.YtgpfkaiinbncnaaDoorZeros
import Derived.Test.YtgpfkaiinbncnaaDoorLen
import Derived.BigQuiet
namespace Go.Proofs.YtgpfkaiinbncnaaDoor
open Go.RowKit

/-- the 64 places -/
def pl64 (n : Nat) (f : Nat → Int) (i : Nat) : Int := if i < n then f i else 0

set_option maxRecDepth 100000 in
set_option maxHeartbeats 2000000 in
theorem checked_any (w : World) (v : Value) (n : Nat) (f : Nat → Int) (hv : RdF w v n (fun j => .int .i64 (f j))) (hn : n ≤ 64) (hb : ∀ j, j < n → 0 ≤ f j ∧ f j ≤ 1125899906842624) :
    Calls Tryd.prog 50 #[v] w fun e w' => ∃ g cap, e = .returned (.tuple #[.slice (some ⟨g, 0, none⟩) 64 cap, .nilIface]) ∧ w.heap.size ≤ g ∧ RowI w' g 64 cap (pl64 n f) ∧ Fr [] w w' := by
  obtain ⟨a, c, rfl⟩ := hv.slice
  have HV := Lib.hid hv; clear hv
  have HB := Lib.hid hb; clear hb
  go_enter Tryd.func50, Tryd.ntmps50
  go_wp2
  go_loopw [12] (fun i wr => ∃ k : Nat, k ≤ n ∧ i = .int .i64 k ∧ wr = w) (fun i _ => n - (intOf i).toNat)
  case atStart => exact ⟨0, by omega, rfl, rfl⟩
  case round =>
    obtain ⟨k, hk, rfl, rfl⟩ := hrel
    by_cases hlt : k < n
    · obtain ⟨b1, o1, c1, he1, _, _, _, hc1⟩ := HV.out.shape (by omega)
      simp only [Value.slice.injEq, true_and] at he1
      obtain ⟨rfl, rfl⟩ := he1
      have k1 := hc1 k hlt
      clear hc1
      have bd := HB.out k hlt
      have k0 : (0 : Int) ≤ (k : Int) := by omega
      have k3 : (k : Int) < (n : Int) := by omega
      go_wp2
      go_roundw
      case rel => exact ⟨k + 1, by omega, by go_num, by trivial⟩
      case measure => simp [intOf]; omega
    · obtain rfl : k = n := by omega
      go_wp2_with fail
      refine (clone_ints _ _ k f HV.out (by omega)).mono ?_
      rintro e w1 ⟨v1, rfl, ho1, hf1⟩
      obtain ⟨v2, w2, hr, ho2, hf2⟩ := run_zeros w1 28 ho1 (64 - k) (by omega) hf1.size
      rw [show k + (64 - k) = 64 by omega] at ho2
      have hcast : ((64 - k : Nat) : Int) = 64 - (k : Int) := by omega
      rw [hcast] at hr
      have HR := Lib.hid hr; clear hr
      have HO2 := Lib.hid ho2; clear ho2
      have HF2 := Lib.hid (hf1.trans hf2 (fun x hx => .inr (ho1.ge x hx))); clear hf1 hf2 ho1
      go_wp2_with (at_builtin; refine Lib.wpList_append_run _ rfl _ _ _ _ rfl _ _ rfl rfl _ _ HR.out ?_)
      go_ret2
      obtain ⟨g, cap, e2, hg, hr2⟩ := HO2.out.row (by omega)
      subst e2
      exact ⟨g, cap, rfl, hg, hr2.congr (fun j hj => by
        unfold app pl64
        by_cases h1 : j < k
        · rw [if_pos h1, if_pos h1]
        · rw [if_neg h1, if_neg h1]), HF2.out⟩

/-- the sum of f 0 .. f (k-1) -/
def isum (f : Nat → Int) : Nat → Int
  | 0 => 0
  | k + 1 => isum f k + f k

theorem isum_bd (f : Nat → Int) (k : Nat) (h : ∀ j, j < k → 0 ≤ f j ∧ f j ≤ 1125899906842624) : 0 ≤ isum f k ∧ isum f k ≤ k * 1125899906842624 := by
  induction k with
  | zero => simp [isum]
  | succ k ih =>
    have h1 := ih fun j hj => h j (by omega)
    have h2 := h k (by omega)
    unfold isum
    omega

set_option maxRecDepth 100000 in
set_option maxHeartbeats 2000000 in
theorem count_any (w : World) (g m cap : Nat) (f : Nat → Int) (hr : RowI w g m cap f) (hm : m ≤ 64) (hb : ∀ j, j < m → 0 ≤ f j ∧ f j ≤ 1125899906842624) (c : Nat) :
    Calls Tryd.prog 53 #[.slice (some ⟨g, 0, none⟩) m c] w fun e w' => e = .returned (.int .i64 (isum f m)) ∧ w' = w := by
  have HR := Lib.hid hr; clear hr
  have HB := Lib.hid hb; clear hb
  go_enter Tryd.func53, Tryd.ntmps53
  go_wp2
  go_loopw [3, 8] (fun s i wr => ∃ k : Nat, k ≤ m ∧ i = .int .i64 k ∧ s = .int .i64 (isum f k) ∧ wr = w) (fun _ i _ => m - (intOf i).toNat)
  case atStart => exact ⟨0, by omega, rfl, rfl, rfl⟩
  case round =>
    obtain ⟨k, hk, rfl, rfl, rfl⟩ := hrel
    by_cases hlt : k < m
    · have k1 := HR.out.cell k hlt
      have bd := HB.out k hlt
      have bs := isum_bd f k (fun j hj => HB.out j (by omega))
      have k0 : (0 : Int) ≤ (k : Int) := by omega
      have k3 : (k : Int) < (m : Int) := by omega
      go_wp2
      go_roundw
      case rel => exact ⟨k + 1, by omega, by go_num, by rfl, by trivial⟩
      case measure => simp [intOf]; omega
    · obtain rfl : k = m := by omega
      go_wp2
      go_ret
      exact ⟨rfl, rfl⟩

/-- how many places there are without those that hold 0 at the end -/
def trm (f : Nat → Int) : Nat → Nat
  | 0 => 0
  | k + 1 => if f k = 0 then trm f k else k + 1

theorem trm_le (f : Nat → Int) (k : Nat) : trm f k ≤ k := by
  induction k with
  | zero => exact Nat.le_refl _
  | succ k ih => unfold trm; split <;> omega

theorem trm_zero (f : Nat → Int) (k : Nat) : ∀ j, trm f k ≤ j → j < k → f j = 0 := by
  induction k with
  | zero => intro j _ h; omega
  | succ k ih =>
    intro j h1 h2
    unfold trm at h1
    by_cases h : f k = 0
    · rw [if_pos h] at h1
      by_cases hj : j = k
      · subst hj; exact h
      · exact ih j h1 (by omega)
    · rw [if_neg h] at h1; omega

set_option maxRecDepth 100000 in
set_option maxHeartbeats 2000000 in
theorem tally_told (w : World) (g cap : Nat) (f : Nat → Int) (hr : RowI w g 64 cap f) (hb : ∀ j, j < 64 → 0 ≤ f j ∧ f j ≤ 1125899906842624) :
    Calls Tryd.prog 52 #[.slice (some ⟨g, 0, none⟩) 64 cap] w fun e w' => e = .returned (.tuple #[.slice (some ⟨g, 0, none⟩) (trm f 64) (trm f 64), .nilIface]) ∧ w' = w := by
  have hcap := hr.le
  have hcm := hr.cap_le
  unfold maxLen at hcm
  have HR := Lib.hid hr; clear hr
  have HB := Lib.hid hb; clear hb
  go_enter Tryd.func52, Tryd.ntmps52
  go_wp2
  go_loopw [4] (fun i wr => ∃ k : Nat, k ≤ 64 ∧ i = .int .i64 k ∧ Hid (trm f 64 = trm f k) ∧ wr = w) (fun i _ => (intOf i).toNat)
  case atStart => exact ⟨64, by omega, rfl, Lib.hid rfl, rfl⟩
  case round =>
    obtain ⟨k, hk, rfl, HT, rfl⟩ := hrel
    by_cases hz : k = 0 ∨ (0 < k ∧ f (k - 1) ≠ 0)
    · have he : trm f k = k := by
        rcases hz with h | ⟨h1, h2⟩
        · subst h; rfl
        · obtain ⟨j, rfl⟩ : ∃ j, k = j + 1 := ⟨k - 1, by omega⟩
          unfold trm
          rw [if_neg (by simpa using h2)]
      have HE := Lib.hid (HT.out.trans he)
      clear he
      rcases hz with h1 | ⟨h1, h2⟩
      case' inl => subst h1
      case' inr => have x1 := HR.out.cell (k - 1) (by omega)
      case' inr => have h3 : (f (k - 1) == 0) = false := by simpa using h2
      case' inr => have h4 : (0 : Int) < (k : Int) := by omega
      case' inr => clear h2
      all_goals
        go_wp2_with (go_in)
        go_loopw [8] (fun i wx => ∃ t : Nat, t ≤ 64 ∧ i = .int .i64 t ∧ wx = wr) (fun i _ => 64 - (intOf i).toNat)
        case atStart => exact ⟨0, by omega, rfl, rfl⟩
        case round =>
          obtain ⟨t, ht, rfl, rfl⟩ := hrel
          by_cases hlt : t < 64
          · have y1 := HR.out.cell t hlt
            have bd := HB.out t hlt
            have n1 : decide (1125899906842624 < f t) = false := by simp; omega
            have t0 : (0 : Int) ≤ (t : Int) := by omega
            have t3 : (t : Int) < 64 := by omega
            go_wp2_with (go_in)
            go_roundw
            case rel => exact ⟨t + 1, by omega, by go_num, by trivial⟩
            case measure => simp [intOf]; omega
          · obtain rfl : t = 64 := by omega
            go_wp2
            go_ret2
            exact ⟨by rw [HE.out]; rfl, rfl⟩
    · obtain ⟨j, rfl⟩ : ∃ j, k = j + 1 := ⟨k - 1, by omega⟩
      have hfz : f j = 0 := by
        by_cases h : f j = 0
        · exact h
        · exact absurd (.inr ⟨by omega, by simpa using h⟩) hz
      have x1 := HR.out.cell j (by omega)
      rw [hfz] at x1
      have HT2 := Lib.hid (HT.out.trans (show trm f (j + 1) = trm f j from by show (if f j = 0 then trm f j else j + 1) = trm f j; rw [if_pos hfz]))
      have e1 : ((j : Int) + 1) - 1 = (j : Int) := by omega
      clear hz hfz
      go_wp2
      go_roundw
      case rel => exact ⟨j, by omega, by go_num, HT2, by trivial⟩
      case measure => simp [intOf]

/-- the place of a number -/
def plc (n : Int) : Nat := Lib.bitLen n.toNat

theorem plc_lt (n : Int) (h0 : 0 ≤ n) (h1 : n ≤ 9223372036854775807) : plc n < 64 := by
  have := (bitLen_le_iff 63 n.toNat (by omega)).2 (by omega)
  unfold plc
  omega

set_option maxRecDepth 100000 in
set_option maxHeartbeats 2000000 in
theorem tally_add (w : World) (v : Value) (n : Nat) (f : Nat → Int) (hv : RdF w v n (fun j => .int .i64 (f j))) (hn : n ≤ 64) (hb : ∀ j, j < n → 0 ≤ f j ∧ f j ≤ 1125899906842623) (x : Int) (hx : 0 ≤ x) (hx1 : x ≤ 9223372036854775807) :
    Calls Tryd.prog 23 #[v, .int .i64 x] w fun e w' => ∃ g, e = .returned (.tuple #[.slice (some ⟨g, 0, none⟩) (trm (fun j => if j = plc x then pl64 n f j + 1 else pl64 n f j) 64) (trm (fun j => if j = plc x then pl64 n f j + 1 else pl64 n f j) 64), .nilIface]) ∧
      w.heap.size ≤ g ∧ (∃ cap, RowI w' g 64 cap (fun j => if j = plc x then pl64 n f j + 1 else pl64 n f j)) ∧ Fr [] w w' := by
  have HV := Lib.hid hv; clear hv
  have HB := Lib.hid hb; clear hb
  have hp := plc_lt x hx hx1
  go_enter Tryd.func23, Tryd.ntmps23
  go_wp2_with fail
  refine (checked_any _ v n f HV.out hn (fun j hj => by have := HB.out j hj; omega)).mono ?_
  rintro e w1 ⟨g, cap, rfl, hg, hr1, hf1⟩
  have HF1 := Lib.hid hf1; clear hf1
  have hq : ∀ j, 0 ≤ pl64 n f j ∧ pl64 n f j ≤ 1125899906842623 := fun j => by
    unfold pl64
    by_cases h : j < n
    · rw [if_pos h]; exact HB.out j h
    · rw [if_neg h]; omega
  have HQ := Lib.hid hq; clear hq
  have hbp := HQ.out (plc x)
  have k1 := hr1.cell (plc x) hp
  have k2 := hr1.frozen (plc x)
  have p0 : (0 : Int) ≤ ((plc x : Nat) : Int) := by omega
  have p3 : ((plc x : Nat) : Int) < 64 := by omega
  have hs := (hr1.stored (plc x) (.int .i64 (pl64 n f (plc x) + 1))).congr (f' := fun j => .int .i64 (if j = plc x then pl64 n f j + 1 else pl64 n f j)) (fun j hj => by
    by_cases h : j = plc x
    · rw [if_pos h, if_pos h, h]
    · rw [if_neg h, if_neg h])
  have HS := Lib.hid hs; clear hs hr1
  have HF2 := Lib.hid (HF1.out.setCell (p := ⟨g, plc x, none⟩) (.inr hg) (.int .i64 (pl64 n f (plc x) + 1)))
  have HLEN := Lib.hid (show Calls Tryd.prog 51 #[.int .u64 x] w1 fun e w' => e = .returned (.int .i64 ((plc x : Nat) : Int)) ∧ w' = w1 from bits_Len x w1 hx (by omega))
  have hwr : x % 18446744073709551616 = x := by omega
  go_wp2_with fail
  refine Calls.mono HLEN.out ?_
  rintro e w2 ⟨rfl, rfl⟩
  generalize hpp : plc x = pp at *
  have HPP := Lib.hid hpp; clear hpp
  go_wp2_with fail
  refine (tally_told _ g cap _ HS.out (fun j hj => by have := HQ.out j; split <;> omega)).mono ?_
  rintro e w3 ⟨rfl, rfl⟩
  clear k1 k2
  go_wp2
  go_ret2
  simp only [HPP.out]
  exact ⟨g, rfl, hg, ⟨cap, HS.out⟩, HF2.out⟩

theorem isum_mono (f : Nat → Int) (h : ∀ j, 0 ≤ f j) : ∀ (a b : Nat), a ≤ b → isum f a ≤ isum f b := by
  intro a b hab
  induction b with
  | zero => have : a = 0 := by omega
            subst this; exact Int.le_refl _
  | succ b ih =>
    by_cases h1 : a = b + 1
    · subst h1; exact Int.le_refl _
    · have := ih (by omega)
      have := h b
      show isum f a ≤ isum f b + f b
      omega

theorem pow_wrap (k : Nat) (hk : k ≤ 63) : wrap64 (wrap64 (2 ^ k) - 1) = 2 ^ k - 1 := by
  have h : ∀ k : Fin 64, wrap64 (wrap64 (2 ^ k.val) - 1) = 2 ^ k.val - 1 := by decide +kernel
  exact h ⟨k, by omega⟩

/-- what Bound tells -/
def BndAt (F : Nat → Int) (p : Int) (i : Nat) : Prop := i < 64 ∧ (∀ j, j < i → 100 * isum F (j + 1) < p * isum F 64) ∧ p * isum F 64 ≤ 100 * isum F (i + 1)

set_option maxRecDepth 100000 in
set_option maxHeartbeats 2000000 in
theorem tally_bound (w : World) (v : Value) (n : Nat) (f : Nat → Int) (hv : RdF w v n (fun j => .int .i64 (f j))) (hn : n ≤ 64) (hb : ∀ j, j < n → 0 ≤ f j ∧ f j ≤ 1125899906842623) (p : Int) (hp : 0 ≤ p ∧ p ≤ 100)
    (hs : 0 < isum (pl64 n f) 64) (hs2 : isum (pl64 n f) 64 ≤ 1000000) :
    Calls Tryd.prog 27 #[v, .int .i64 p] w fun e w' => ∃ i, BndAt (pl64 n f) p i ∧ e = .returned (.tuple #[.int .i64 (2 ^ i - 1), .nilIface]) ∧ Fr [] w w' := by
  have HV := Lib.hid hv; clear hv
  have HB := Lib.hid hb; clear hb
  have hq : ∀ j, 0 ≤ pl64 n f j ∧ pl64 n f j ≤ 1125899906842623 := fun j => by
    unfold pl64
    by_cases h : j < n
    · rw [if_pos h]; exact HB.out j h
    · rw [if_neg h]; omega
  have HQ := Lib.hid hq; clear hq
  go_enter Tryd.func27, Tryd.ntmps27
  go_wp2_with fail
  refine (checked_any _ v n f HV.out hn (fun j hj => by have := HB.out j hj; omega)).mono ?_
  rintro e w1 ⟨g, cap, rfl, hg, hr1, hf1⟩
  have hcap := hr1.le
  have hcm := hr1.cap_le
  unfold maxLen at hcm
  have HF1 := Lib.hid hf1; clear hf1
  have HR1 := Lib.hid hr1; clear hr1
  generalize hF : pl64 n f = F at *
  have HFF := Lib.hid hF; clear hF
  go_wp2_with fail
  refine (count_any _ g 64 cap F HR1.out (by omega) (fun j hj => by have := HQ.out j; omega) cap).mono ?_
  rintro e w2 ⟨rfl, rfl⟩
  have hall : ((isum F 64 : Int) == 0) = false := by simp; omega
  have P1 : 0 ≤ p * isum F 64 ∧ p * isum F 64 ≤ 100 * isum F 64 := ⟨Int.mul_nonneg hp.1 (by omega), Int.mul_le_mul_of_nonneg_right hp.2 (by omega)⟩
  have PW := Lib.hid P1
  go_wp2
  go_loopw [9] (fun i wr => ∃ k : Nat, k ≤ 63 ∧ i = .int .i64 k ∧ Hid (∀ j, j < k → 100 * isum F (j + 1) < p * isum F 64) ∧ wr = w2) (fun i _ => 64 - (intOf i).toNat)
  case atStart => exact ⟨0, by omega, rfl, Lib.hid (fun j hj => by omega), rfl⟩
  case round =>
    obtain ⟨k, hk, rfl, HK, rfl⟩ := hrel
    have k0 : (0 : Int) ≤ (k : Int) := by omega
    have hk1 : (k : Int) + 1 ≤ (cap : Int) := by omega
    have hbd : 0 ≤ isum F (k + 1) ∧ isum F (k + 1) ≤ isum F 64 := ⟨isum_mono F (fun j => (HQ.out j).1) 0 (k + 1) (by omega), isum_mono F (fun j => (HQ.out j).1) (k + 1) 64 (by omega)⟩
    have HCO := Lib.hid (count_any wr g (k + 1) cap F (HR1.out.take (k + 1) (by omega)) (by omega) (fun j hj => by have := HQ.out j; omega) cap)
    by_cases hlt : 100 * isum F (k + 1) < p * isum F 64
    · have hk2 : k + 1 ≤ 63 := by
        by_cases h : k = 63
        · subst h
          have h64 : isum F (63 + 1) = isum F 64 := rfl
          omega
        · omega
      go_wp2_with fail
      refine Calls.mono HCO.out ?_
      rintro e w3 ⟨rfl, rfl⟩
      go_wp2
      go_roundw
      case rel => exact ⟨k + 1, by omega, by go_num, Lib.hid (fun j hj => by
        by_cases h : j < k
        · exact HK.out j h
        · obtain rfl : j = k := by omega
          exact hlt), by trivial⟩
      case measure => simp [intOf]; omega
    · have HLT := Lib.hid hlt
      go_wp2_with fail
      refine Calls.mono HCO.out ?_
      rintro e w3 ⟨rfl, rfl⟩
      go_wp2
      go_ret2
      rw [HFF.out]
      exact ⟨k, ⟨by omega, HK.out, by have := HLT.out; omega⟩, by rw [← pow_wrap k hk]; rfl, HF1.out⟩

end Go.Proofs.YtgpfkaiinbncnaaDoor
