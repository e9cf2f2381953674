/- rule.begins: are the first bits of an address another one's? -/
import Derived.Test.YtgpfkaiinbncnaaDoorInfo
import Derived.IntWalk
import Derived.BigQuiet
import Derived.Laws.BitsAllLaws
namespace Go.Proofs.YtgpfkaiinbncnaaDoor
open Go.RowKit

/-- a byte's bit -/
def bt (x : Int) (p : Nat) : Int := x / 2 ^ (7 - p) % 2

/-- a row's bit -/
def btR (f : Nat → Int) (i : Nat) : Int := bt (f (i / 8)) (i % 8)

/-- are the first k bits alike? -/
def bitsUpTo (f g : Nat → Int) : Nat → Bool
  | 0 => true
  | k + 1 => bitsUpTo f g k && decide (btR f k = btR g k)

theorem bitsUpTo_false {f g : Nat → Int} {i n : Nat} (hi : i < n) (h : ¬ btR f i = btR g i) : bitsUpTo f g n = false := by
  induction n with
  | zero => omega
  | succ n ih =>
    simp only [bitsUpTo]
    by_cases e : i = n
    · subst e
      rw [decide_eq_false h, Bool.and_false]
    · rw [ih (by omega), Bool.false_and]

/-- does the row f of n bytes begin with k bits of g? -/
def begF (f : Nat → Int) (n : Nat) (g : Nat → Int) (k : Int) : Bool := decide (k ≤ 8 * (n : Int)) && bitsUpTo f g k.toNat

theorem xor_bit (x y s : Nat) : ((x ^^^ y) >>> s) &&& 1 = (x / 2 ^ s % 2 + y / 2 ^ s % 2) % 2 := by
  rw [Nat.and_one_is_mod, Nat.shiftRight_eq_div_pow]
  have h : (x ^^^ y) / 2 ^ s % 2 = ((x ^^^ y).testBit s).toNat := by rw [Nat.testBit_eq_decide_div_mod_eq]; by_cases e : (x ^^^ y) / 2 ^ s % 2 = 1 <;> simp [e]; omega
  have hx : x / 2 ^ s % 2 = (x.testBit s).toNat := by rw [Nat.testBit_eq_decide_div_mod_eq]; by_cases e : x / 2 ^ s % 2 = 1 <;> simp [e]; omega
  have hy : y / 2 ^ s % 2 = (y.testBit s).toNat := by rw [Nat.testBit_eq_decide_div_mod_eq]; by_cases e : y / 2 ^ s % 2 = 1 <;> simp [e]; omega
  rw [h, hx, hy, Nat.testBit_xor]
  cases x.testBit s <;> cases y.testBit s <;> rfl

theorem bit_cond {x y : Int} (hx : 0 ≤ x ∧ x ≤ 255) (hy : 0 ≤ y ∧ y ≤ 255) {p : Nat} (_hp : p ≤ 7) :
    (bits .and .u8 (bits .xor .u8 x y / 2 ^ (7 - p)) 1 == 1) = !decide (bt x p = bt y p) := by
  obtain ⟨x, rfl⟩ := Int.eq_ofNat_of_zero_le hx.1
  obtain ⟨y, rfl⟩ := Int.eq_ofNat_of_zero_le hy.1
  have hx' : x < 256 := by omega
  have hy' : y < 256 := by omega
  have hlt : (x ^^^ y) < 256 := Nat.xor_lt_two_pow (n := 8) hx' hy'
  have e1 := u8_xor_nat x y hx' hy'
  rw [e1]
  have e2 : (((x ^^^ y : Nat) : Int) / 2 ^ (7 - p)) = (((x ^^^ y) / 2 ^ (7 - p) : Nat) : Int) := by push_cast; rfl
  have hlt2 : (x ^^^ y) / 2 ^ (7 - p) < 256 := Nat.lt_of_le_of_lt (Nat.div_le_self _ _) hlt
  rw [e2]
  have e3 := u8_and_nat ((x ^^^ y) / 2 ^ (7 - p)) 1 hlt2 (by decide)
  rw [show ((1 : Nat) : Int) = 1 from rfl] at e3
  rw [e3, ← Nat.shiftRight_eq_div_pow, xor_bit]
  unfold bt
  have ex : ((x : Int) / 2 ^ (7 - p) % 2) = ((x / 2 ^ (7 - p) % 2 : Nat) : Int) := by push_cast; rfl
  have ey : ((y : Int) / 2 ^ (7 - p) % 2) = ((y / 2 ^ (7 - p) % 2 : Nat) : Int) := by push_cast; rfl
  rw [ex, ey]
  generalize x / 2 ^ (7 - p) = u
  generalize y / 2 ^ (7 - p) = v
  have hu : u % 2 = 0 ∨ u % 2 = 1 := by omega
  have hv : v % 2 = 0 ∨ v % 2 = 1 := by omega
  rcases hu with h | h <;> rcases hv with h' | h' <;> rw [h, h'] <;> rfl

set_option maxHeartbeats 2000000 in
set_option maxRecDepth 100000 in
theorem begins_any (w : World) (a : Option Addr) (n c : Nat) (f : Nat → Int) (b : Option Addr) (m d : Nat) (g : Nat → Int) (k : Int)
    (ha : RdF w (.slice a n c) n (fun j => .int .u8 (f j))) (hb : RdF w (.slice b m d) m (fun j => .int .u8 (g j))) (hf : ∀ j, j < n → 0 ≤ f j ∧ f j ≤ 255) (hg : ∀ j, j < m → 0 ≤ g j ∧ g j ≤ 255)
    (hm : m ≤ 16) (hn : n ≤ 140737488355328) (hk0 : 0 ≤ k) (hk1 : k ≤ 8 * (m : Int)) :
    Calls Tryd.prog 94 #[.slice a n c, .slice b m d, .int .i64 k] w fun e w' => e = .returned (.bool (begF f n g k)) ∧ Fr [] w w' := by
  have HA := Lib.hid ha; clear ha
  have HB := Lib.hid hb; clear hb
  have HF := Lib.hid hf; clear hf
  have HG := Lib.hid hg; clear hg
  obtain ⟨k, rfl⟩ := Int.eq_ofNat_of_zero_le hk0
  have hw8 : IntKind.i64.wrap (8 * (n : Int)) = 8 * (n : Int) := IntWalk.i64_in _ (by omega)
  go_enter Tryd.func94, Tryd.ntmps94
  by_cases h8 : 8 * n < k
  · have HV := Lib.hid (show begF f n g (k : Int) = false by unfold begF; rw [decide_eq_false (by omega), Bool.false_and])
    go_wp2
    go_ret
    exact ⟨by rw [HV.out]; rfl, Fr.refl _ _⟩
  · have HV := Lib.hid (show begF f n g (k : Int) = bitsUpTo f g k by unfold begF; rw [decide_eq_true (by omega), Bool.true_and]; rfl)
    go_wp2
    go_loopw [14] (fun vi wr => ∃ i : Nat, i ≤ k ∧ vi = .int .i64 i ∧ bitsUpTo f g i = true ∧ Fr [] w wr) (fun vi _ => k - (intOf vi).toNat)
    case atStart => exact ⟨0, by omega, rfl, rfl, Fr.refl _ _⟩
    case round =>
      obtain ⟨i, hi, rfl, hbt, hfr⟩ := hrel
      have HBT := Lib.hid hbt; clear hbt
      have FR := Lib.hid hfr; clear hfr
      by_cases hlt : i < k
      · obtain ⟨b1, o1, c1, he1, _, _, _, hc1⟩ := (HA.out.fr FR.out (fun _ _ _ _ => by simp)).shape (by omega)
        simp only [Value.slice.injEq, true_and] at he1
        obtain ⟨rfl, rfl⟩ := he1
        have c0 := hc1 (i / 8) (by omega)
        clear hc1
        obtain ⟨b2, o2, c2, he2, _, _, _, hc2⟩ := (HB.out.fr FR.out (fun _ _ _ _ => by simp)).shape (by omega)
        simp only [Value.slice.injEq, true_and] at he2
        obtain ⟨rfl, rfl⟩ := he2
        have c1 := hc2 (i / 8) (by omega)
        clear hc2
        go_wp2_with fail
        go_quiet (fail)
        have hfd := FR.out.drewN nq
        have HFD := Lib.hid hfd; clear hfd
        have HC := bit_cond (HF.out (i / 8) (by omega)) (HG.out (i / 8) (by omega)) (p := i % 8) (by omega)
        rw [HC]
        clear HC
        have HS := Lib.hid (show bitsUpTo f g (i + 1) = (bitsUpTo f g i && decide (btR f i = btR g i)) from rfl)
        have HT := Lib.hid (fun h => bitsUpTo_false (f := f) (g := g) (i := i) (n := k) hlt h)
        generalize wr.drewN nq = w2 at *
        by_cases hb : btR f i = btR g i
        · have HS2 := Lib.hid (show bitsUpTo f g (i + 1) = true by rw [HS.out, HBT.out, decide_eq_true hb]; rfl)
          have hd : decide (bt (f (i / 8)) (i % 8) = bt (g (i / 8)) (i % 8)) = true := decide_eq_true hb
          rw [hd]
          clear hd
          go_wp2
          go_roundw
          case rel => exact ⟨i + 1, by omega, by go_num, HS2.out, HFD.out⟩
          case measure => simp [intOf]; omega
        · have HV2 := Lib.hid (HV.out.trans (HT.out hb))
          have hd : decide (bt (f (i / 8)) (i % 8) = bt (g (i / 8)) (i % 8)) = false := decide_eq_false hb
          rw [hd]
          clear hd
          go_wp2
          go_ret
          exact ⟨by rw [HV2.out]; rfl, HFD.out⟩
      · obtain rfl : i = k := by omega
        go_wp2
        go_ret
        exact ⟨by rw [HV.out, HBT.out]; rfl, FR.out⟩

end Go.Proofs.YtgpfkaiinbncnaaDoor
