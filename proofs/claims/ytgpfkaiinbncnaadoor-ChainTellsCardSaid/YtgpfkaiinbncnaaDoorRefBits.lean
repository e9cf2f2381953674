/- The reference's BitOf and Alike (of addresses). -/
import Derived.Test.YtgpfkaiinbncnaaDoorBegins
namespace Go.Proofs.YtgpfkaiinbncnaaDoor
open Go.RowKit

theorem half_pow (v : Int) (e : Nat) (he : 1 ≤ e) (h7 : e ≤ 7) : v / 2 ^ (7 - e) / 2 = v / 2 ^ (7 - (e - 1)) := by
  rw [Int.ediv_ediv_of_nonneg (by exact Int.pow_nonneg (by decide)), ← Int.pow_succ]
  congr 2
  omega

theorem pow_bd (v : Int) (e : Nat) (h0 : 0 ≤ v) (h1 : v ≤ 255) : 0 ≤ v / 2 ^ e ∧ v / 2 ^ e ≤ 255 := by
  have hp : (0 : Int) < 2 ^ e := Int.pow_pos (by decide)
  refine ⟨Int.ediv_nonneg h0 (by omega), Int.le_trans (Int.ediv_le_self _ h0) h1⟩

set_option maxHeartbeats 2000000 in
set_option maxRecDepth 100000 in
theorem bitOf_any (w : World) (a : Option Addr) (n c : Nat) (f : Nat → Int) (ha : RdF w (.slice a n c) n (fun j => .int .u8 (f j))) (hf : ∀ j, j < n → 0 ≤ f j ∧ f j ≤ 255) (i : Nat) (hi : i / 8 < n) (hi2 : i ≤ 1000000) :
    Calls Tryd.prog 92 #[.slice a n c, .int .i64 i] w fun e w' => e = .returned (.int .i64 (btR f i)) ∧ w = w' := by
  obtain ⟨b1, o1, c1, he1, _, _, _, hc1⟩ := ha.shape (by omega)
  simp only [Value.slice.injEq, true_and] at he1
  obtain ⟨rfl, rfl⟩ := he1
  have c0 := hc1 (i / 8) (by omega)
  clear hc1
  have hb := hf (i / 8) hi
  have HV := Lib.hid (show btR f i = f (i / 8) / 2 ^ (7 - i % 8) % 2 from rfl)
  clear hf ha
  generalize f (i / 8) = v at *
  have i0 : (0 : Int) ≤ (i : Int) := by omega
  have i1 : ((i / 8 : Nat) : Int) < (n : Int) := by omega
  have i2 : (0 : Int) ≤ ((i / 8 : Nat) : Int) := by omega
  have i3 : (i : Int) / 8 < (n : Int) := by omega
  have i4 : (0 : Int) ≤ (i : Int) / 8 := by omega
  go_enter Tryd.func92, Tryd.ntmps92
  go_wp2
  go_loop [5, 6] (fun x k => ∃ e : Nat, i % 8 ≤ e ∧ e ≤ 7 ∧ k = .int .i64 e ∧ x = .int .i64 (v / 2 ^ (7 - e))) (fun _ k => (intOf k).toNat)
  case atStart => exact ⟨7, by omega, by omega, rfl, by simp⟩
  case round =>
    obtain ⟨e, h1, h2, rfl, rfl⟩ := hrel
    obtain ⟨p0, p1⟩ := pow_bd v (7 - e) hb.1 hb.2
    by_cases hlt : i % 8 < e
    · have HH := Lib.hid (half_pow v e (by omega) h2)
      have hd : (i : Int) % 8 < (e : Int) := by omega
      obtain ⟨e', rfl⟩ : ∃ e', e = e' + 1 := ⟨e - 1, by omega⟩
      rw [Nat.add_sub_cancel] at HH
      generalize v / 2 ^ (7 - (e' + 1)) = z at *
      go_wp2
      go_round
      case rel => exact ⟨e', by omega, by omega, by simp, by rw [HH.out]⟩
      case measure => simp [intOf]
    · obtain rfl : e = i % 8 := by omega
      generalize hz : v / 2 ^ (7 - i % 8) = z at *
      have HZ := Lib.hid hz; clear hz
      go_wp2
      go_ret
      exact ⟨by rw [HV.out]; rfl, rfl⟩

theorem bitsUpTo_true {f g : Nat → Int} {i : Nat} (h : bitsUpTo f g i = true) (h2 : btR f i = btR g i) : bitsUpTo f g (i + 1) = true := by
  simp only [bitsUpTo]
  rw [h, decide_eq_true h2]
  rfl

set_option maxHeartbeats 2000000 in
set_option maxRecDepth 100000 in
theorem alikeRef_any (w : World) (a : Option Addr) (n c : Nat) (f : Nat → Int) (b : Option Addr) (m d : Nat) (g : Nat → Int) (k : Nat)
    (ha : RdF w (.slice a n c) n (fun j => .int .u8 (f j))) (hb : RdF w (.slice b m d) m (fun j => .int .u8 (g j))) (hf : ∀ j, j < n → 0 ≤ f j ∧ f j ≤ 255) (hg : ∀ j, j < m → 0 ≤ g j ∧ g j ≤ 255)
    (hk1 : k ≤ 8 * n) (hk2 : k ≤ 8 * m) (hk3 : k ≤ 128) :
    Calls Tryd.prog 77 #[.slice a n c, .slice b m d, .int .i64 k] w fun e w' => e = .returned (.bool (bitsUpTo f g k)) ∧ w = w' := by
  have HA := Lib.hid ha; clear ha
  have HB := Lib.hid hb; clear hb
  have HF := Lib.hid hf; clear hf
  have HG := Lib.hid hg; clear hg
  go_enter Tryd.func77, Tryd.ntmps77
  go_wp2
  go_loop [7] (fun vi => ∃ i : Nat, i ≤ k ∧ vi = .int .i64 i ∧ bitsUpTo f g i = true) (fun vi => k - (intOf vi).toNat)
  case atStart => exact ⟨0, by omega, rfl, rfl⟩
  case round =>
    obtain ⟨i, hi, rfl, hbt⟩ := hrel
    have HBT := Lib.hid hbt; clear hbt
    by_cases hlt : i < k
    · have HC1 := Lib.hid (bitOf_any w a n c f HA.out HF.out i (by omega) (by omega))
      have HC2 := Lib.hid (bitOf_any w b m d g HB.out HG.out i (by omega) (by omega))
      have HS := Lib.hid (fun h => bitsUpTo_true (f := f) (g := g) HBT.out h)
      have HT := Lib.hid (fun h => bitsUpTo_false (f := f) (g := g) (i := i) (n := k) hlt h)
      generalize btR f i = x at *
      generalize btR g i = y at *
      by_cases hxy : x = y
      · subst hxy
        have HS2 := Lib.hid (HS.out rfl)
        clear HS HT
        go_wp2_with (first
          | (go_at_call 92; (with_reducible refine HC1.out.mono ?_); rintro e w1 ⟨rfl, rfl⟩)
          | (go_at_call 92; (with_reducible refine HC2.out.mono ?_); rintro e w1 ⟨rfl, rfl⟩))
        go_round
        case rel => exact ⟨i + 1, by omega, by go_num, HS2.out⟩
        case measure => simp [intOf]; omega
      · have hne : (x != y) = true := by simpa using hxy
        have HV := Lib.hid (HT.out hxy)
        clear HS HT hxy
        go_wp2_with (first
          | (go_at_call 92; (with_reducible refine HC1.out.mono ?_); rintro e w1 ⟨rfl, rfl⟩)
          | (go_at_call 92; (with_reducible refine HC2.out.mono ?_); rintro e w1 ⟨rfl, rfl⟩))
        go_ret
        exact ⟨by rw [HV.out]; rfl, rfl⟩
    · obtain rfl : i = k := by omega
      go_wp2
      go_ret
      exact ⟨by rw [HBT.out]; rfl, rfl⟩

end Go.Proofs.YtgpfkaiinbncnaaDoor
