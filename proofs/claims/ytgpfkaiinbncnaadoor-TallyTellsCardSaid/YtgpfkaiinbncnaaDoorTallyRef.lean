/- The reference's TallyFault, Place, Single, Counted, TallyWith. -/
import Derived.Test.YtgpfkaiinbncnaaDoorTallyAll2
import Derived.Test.YtgpfkaiinbncnaaDoorInfo
namespace Go.Proofs.YtgpfkaiinbncnaaDoor
open Go.RowKit

set_option maxRecDepth 100000 in
set_option maxHeartbeats 1000000 in
theorem tallyFault_any (w : World) (a : Option Addr) (n c : Nat) (f : Nat → Int) (hv : RdF w (.slice a n c) n (fun j => .int .i64 (f j))) (hn : n ≤ 9223372036854775807) :
    Calls Tryd.prog 20 #[.slice a n c] w fun e w' => e = .returned (.int .i64 (tfault n f)) ∧ ∃ q, w' = w.drewN q := by
  have HV := Lib.hid hv; clear hv
  by_cases h1 : 64 < n
  · go_enter Tryd.func20, Tryd.ntmps20
    go_wp2
    go_ret
    exact ⟨by have e : tfault n f = 7 := by { unfold tfault; rw [if_pos h1] }; rw [e]; rfl, 0, rfl⟩
  · go_enter Tryd.func20, Tryd.ntmps20
    go_wp2
    go_loopw [3] (fun i wr => ∃ k : Nat, k ≤ n ∧ i = .int .i64 k ∧ Hid (∀ j, j < k → 0 ≤ f j ∧ f j ≤ 1125899906842624) ∧ wr = w) (fun i _ => n - (intOf i).toNat)
    case atStart => exact ⟨0, by omega, rfl, Lib.hid (fun j hj => by omega), rfl⟩
    case round =>
      obtain ⟨k, hk, rfl, HG, rfl⟩ := hrel
      by_cases hlt : k < n
      · obtain ⟨b1, o1, c1, he1, _, _, _, hc1⟩ := HV.out.shape (by omega)
        simp only [Value.slice.injEq, true_and] at he1
        obtain ⟨rfl, rfl⟩ := he1
        have k1 := hc1 k hlt
        clear hc1
        have k0 : (0 : Int) ≤ (k : Int) := by omega
        have k3 : (k : Int) < (n : Int) := by omega
        have hbad : ¬ (0 ≤ f k ∧ f k ≤ 1125899906842624) → tfault n f = 6 := fun hb => by
          unfold tfault
          rw [if_neg h1, if_neg (fun hg => hb (hg k hlt))]
        have HBAD := Lib.hid hbad; clear hbad
        by_cases hw1 : f k < 0
        · have e := HBAD.out (by omega)
          have E := Lib.hid e; clear e
          go_wp2
          go_ret
          exact ⟨by rw [E.out]; rfl, 0, rfl⟩
        · by_cases hw2 : 1125899906842624 < f k
          · have e := HBAD.out (by omega)
            have E := Lib.hid e; clear e
            go_wp2
            go_ret
            exact ⟨by rw [E.out]; rfl, 0, rfl⟩
          · have hgood : ∀ j, j < k + 1 → 0 ≤ f j ∧ f j ≤ 1125899906842624 := fun j hj => by
              by_cases hjk : j < k
              · exact HG.out j hjk
              · rw [show j = k by omega]; omega
            have HG2 := Lib.hid hgood; clear hgood
            go_wp2
            go_roundw
            case rel => exact ⟨k + 1, by omega, by go_num, HG2, by trivial⟩
            case measure => simp [intOf]; omega
      · obtain rfl : k = n := by omega
        go_wp2
        go_ret
        exact ⟨by have e : tfault k f = 0 := by { unfold tfault; rw [if_neg h1, if_pos HG.out] }; rw [e]; rfl, 0, rfl⟩

theorem bitLen_half (y : Nat) (h0 : 0 < y) (h1 : y < 2 ^ 64) : Lib.bitLen y = Lib.bitLen (y / 2) + 1 := by
  have h2 : y / 2 < 2 ^ 64 := by omega
  have hpos : 0 < Lib.bitLen y := by
    have := (bitLen_le_iff 0 y h1).1
    omega
  have e1 : ∀ i, Lib.bitLen y ≤ i + 1 ↔ Lib.bitLen (y / 2) ≤ i := fun i => by
    rw [bitLen_le_iff (i + 1) y h1, bitLen_le_iff i (y / 2) h2, Nat.pow_succ]
    omega
  have h3 := (e1 (Lib.bitLen (y / 2))).2 (Nat.le_refl _)
  have h4 := (e1 (Lib.bitLen y - 1)).1 (by omega)
  omega

theorem bitLen_zero : Lib.bitLen 0 = 0 := by
  have := (bitLen_le_iff 0 0 (by decide)).2 (by decide)
  omega

set_option maxRecDepth 100000 in
set_option maxHeartbeats 1000000 in
theorem place_any (w : World) (x : Int) (h0 : 0 ≤ x) (h1 : x ≤ 9223372036854775807) :
    Calls Tryd.prog 49 #[.int .i64 x] w fun e w' => e = .returned (.int .i64 ((plc x : Nat) : Int)) ∧ w' = w := by
  obtain ⟨X, rfl⟩ : ∃ X : Nat, x = (X : Int) := ⟨x.toNat, by omega⟩
  have HX := Lib.hid h1
  have hlt := plc_lt (X : Int) h0 h1
  go_enter Tryd.func49, Tryd.ntmps49
  go_wp2
  go_loopw [0, 3] (fun y p wr => ∃ (Y q : Nat), y = .int .i64 Y ∧ p = .int .i64 q ∧ (Y : Int) ≤ 9223372036854775807 ∧ Hid (plc X = q + Lib.bitLen Y) ∧ wr = w) (fun y _ _ => (intOf y).toNat)
  case atStart => exact ⟨X, 0, rfl, rfl, h1, Lib.hid (by unfold plc; simp), rfl⟩
  case round =>
    obtain ⟨Y, q, rfl, rfl, hY, HP, rfl⟩ := hrel
    by_cases hpos : 0 < Y
    · have HB := bitLen_half Y hpos (by omega)
      have hq : q < 64 := by have := HP.out; omega
      have HP2 := Lib.hid (show plc X = (q + 1) + Lib.bitLen (Y / 2) by have := HP.out; omega)
      clear HB
      have hdiv : (Y : Int).tdiv 2 = (Y : Int) / 2 := Int.tdiv_eq_ediv_of_nonneg (by omega)
      have hdiv2 : wrap64 ((Y : Int) / 2) = (Y : Int) / 2 := by unfold wrap64; omega
      have hY2 : ((Y / 2 : Nat) : Int) ≤ 9223372036854775807 := by omega
      have hpi : (0 : Int) < (Y : Int) := by omega
      go_wp2
      go_roundw
      case rel => exact ⟨Y / 2, q + 1, by first | rfl | (congr 1; simp [hdiv]; done) | (congr 1; omega), by go_num, hY2, HP2, by trivial⟩
      case measure => simp [intOf]; omega
    · obtain rfl : Y = 0 := by omega
      have HE := Lib.hid (show plc X = q by have := HP.out; rw [bitLen_zero] at this; omega)
      go_wp2
      go_ret
      exact ⟨by rw [HE.out]; rfl, rfl⟩

/-- one at x's place -/
def one (x : Int) (j : Nat) : Int := if j = plc x then 1 else 0

set_option maxRecDepth 100000 in
set_option maxHeartbeats 1000000 in
theorem single_any (w : World) (x : Int) (h0 : 0 ≤ x) (h1 : x ≤ 9223372036854775807) :
    Calls Tryd.prog 22 #[.int .i64 x] w fun e w' => ∃ a c, e = .returned (.slice a (plc x + 1) c) ∧ RdF w' (.slice a (plc x + 1) c) (plc x + 1) (fun j => .int .i64 (one x j)) ∧ Fr [] w w' := by
  have hlt := plc_lt x h0 h1
  have HP := Lib.hid (fun w => place_any w x h0 h1)
  have hmk := run_mk (P := Tryd.prog) 28 3 infoInt Tryd.underlying28 (plc x + 1) (by omega) (by unfold maxLen; omega)
  have hr := row_mk w 3 (.int .i64 0) rfl (plc x + 1) (by unfold maxLen; omega)
  have k1 := hr.cell (plc x) (by omega)
  have k2 := hr.frozen (plc x)
  have hs := (hr.stored (plc x) (.int .i64 1)).congr (f' := fun j => .int .i64 (one x j)) (fun j hj => by
    unfold one
    by_cases h : j = plc x
    · rw [if_pos h, if_pos h]
    · rw [if_neg h, if_neg h])
  have HS := Lib.hid hs; clear hs hr
  have HF := Lib.hid (((Fr.refl [] w).alloc (.cells (madeCells (Value.int .i64 0).cells (plc x + 1)) 3)).setCell (p := ⟨w.heap.size, plc x, none⟩) (.inr (Nat.le_refl _)) (.int .i64 1))
  have p0 : (0 : Int) ≤ ((plc x : Nat) : Int) := by omega
  generalize plc x = P at *
  have hc : ((P + 1 : Nat) : Int) = (P : Int) + 1 := by omega
  rw [hc] at hmk
  clear hc
  go_enter Tryd.func22, Tryd.ntmps22
  go_wp2_with fail
  refine (HP.out _).mono ?_
  rintro e w1 ⟨rfl, rfl⟩
  have p3 : (P : Int) < (P : Int) + 1 := by omega
  have hs2 := HS.out
  have hf2 := HF.out
  clear HS HF
  go_wp2_with fail
  refine (HP.out _).mono ?_
  rintro e w2 ⟨rfl, hw⟩
  have hw2 : w2 = w1.alloc (.cells (madeCells (Value.int .i64 0).cells (P + 1)) 3) := hw
  rw [← hw2] at k1 k2 hs2 hf2
  have HS := Lib.hid hs2
  have HF := Lib.hid hf2
  clear hw hw2 hs2 hf2 hmk
  go_wp2
  go_ret
  exact ⟨_, _, rfl, HS.out.rd, HF.out⟩

set_option maxRecDepth 100000 in
set_option maxHeartbeats 1000000 in
theorem counted_any (w : World) (a : Option Addr) (n c : Nat) (f : Nat → Int) (hv : RdF w (.slice a n c) n (fun j => .int .i64 (f j))) (hn : n ≤ 64) (hb : ∀ j, j < n → 0 ≤ f j ∧ f j ≤ 1125899906842624) :
    Calls Tryd.prog 25 #[.slice a n c] w fun e w' => e = .returned (.int .i64 (isum f n)) ∧ w' = w := by
  have HV := Lib.hid hv; clear hv
  have HB := Lib.hid hb; clear hb
  go_enter Tryd.func25, Tryd.ntmps25
  go_wp2
  go_loopw [3, 4] (fun s i wr => ∃ k : Nat, k ≤ n ∧ i = .int .i64 k ∧ s = .int .i64 (isum f k) ∧ wr = w) (fun _ i _ => n - (intOf i).toNat)
  case atStart => exact ⟨0, by omega, rfl, rfl, rfl⟩
  case round =>
    obtain ⟨k, hk, rfl, rfl, rfl⟩ := hrel
    by_cases hlt : k < n
    · obtain ⟨b1, o1, c1, he1, _, _, _, hc1⟩ := HV.out.shape (by omega)
      simp only [Value.slice.injEq, true_and] at he1
      obtain ⟨rfl, rfl⟩ := he1
      have k1 := hc1 k hlt
      clear hc1
      have bd := HB.out k hlt
      have bs := isum_bd f k (fun j hj => HB.out j (by omega))
      have k0 : (0 : Int) ≤ (k : Int) := by omega
      have k3 : (k : Int) < (n : Int) := by omega
      go_wp2
      go_roundw
      case rel => exact ⟨k + 1, by omega, by go_num, by rfl, by trivial⟩
      case measure => simp [intOf]; omega
    · obtain rfl : k = n := by omega
      go_wp2
      go_ret
      exact ⟨rfl, rfl⟩

end Go.Proofs.YtgpfkaiinbncnaaDoor
