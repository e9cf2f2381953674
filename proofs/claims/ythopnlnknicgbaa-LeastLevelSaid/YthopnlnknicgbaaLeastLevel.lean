/- LeastLevel: the walk. -/
import Derived.Test.YthopnlnknicgbaaLevel
namespace Go.Proofs.Ythopnlnknicgbaa
open Go.RowKit

set_option maxHeartbeats 1000000 in
theorem pooled_any (w : World) : Calls Try.prog 9 #[] w fun e w' => e = .returned (.bool true) ∧ Fr [] w w' := by
  go_enter Try.func9, Try.ntmps9
  go_wp2_with fail
  refine (least_new _ 2).mono ?_
  rintro e w1 ⟨hf1, ⟨_, p, g, rfl, hp, hg, hP⟩ | ⟨hno, _⟩⟩
  · have hP1 : Pool w1 p g 2 2 (fun _ => 0) := hP
    clear hP
    go_wp2_with fail
    refine (least_start _ p g 2 2 _ hP1 (by omega) (by omega) (fun j _ => by simp)).mono ?_
    rintro e w2 ⟨rfl, hP, hf2⟩
    have hP2 : Pool w2 p g 2 2 (fun j => if j = 0 then 1 else 0) := hP.congr (fun j hj => by rcases (by omega : j = 0 ∨ j = 1) with rfl | rfl <;> rfl)
    have HF2 := Lib.hid (hf1.trans hf2 (S := []) (by simp; omega)); clear hP hf2
    rw [show lst (fun _ => 0) 2 = 0 from rfl]
    go_wp2_with fail
    refine (least_start _ p g 2 2 _ hP2 (by omega) (by omega) (fun j _ => by split <;> omega)).mono ?_
    rintro e w3 ⟨rfl, hP, hf3⟩
    have hP3 : Pool w3 p g 2 2 (fun _ => 1) := hP.congr (fun j hj => by rcases (by omega : j = 0 ∨ j = 1) with rfl | rfl <;> rfl)
    have HF3 := Lib.hid (HF2.out.trans hf3 (S := []) (by simp; omega)); clear hP hf3
    rw [show lst (fun j => if j = 0 then 1 else 0) 2 = 1 from rfl]
    go_wp2_with fail
    refine (least_end _ p g 2 2 _ 0 hP3 (by omega) (by omega) (by omega)).mono ?_
    rintro e w4 ⟨rfl, hP, hf4⟩
    have hP4 : Pool w4 p g 2 2 (fun j => if j = 0 then 0 else 1) := hP.congr (fun j hj => by rcases (by omega : j = 0 ∨ j = 1) with rfl | rfl <;> rfl)
    have HF4 := Lib.hid (HF3.out.trans hf4 (S := []) (by simp; omega)); clear hP hf4
    go_wp2_with fail
    refine (least_start _ p g 2 2 _ hP4 (by omega) (by omega) (fun j _ => by split <;> omega)).mono ?_
    rintro e w5 ⟨rfl, hP, hf5⟩
    have HF5 := Lib.hid (HF4.out.trans hf5 (S := []) (by simp; omega)); clear hP hf5
    rw [show lst (fun j => if j = 0 then 0 else 1) 2 = 0 from rfl]
    go_wp2
    go_ret
    exact ⟨rfl, HF5.out⟩
  · exact absurd (by unfold LOk; omega) hno

set_option maxRecDepth 100000 in
set_option maxHeartbeats 2000000 in
theorem leastLevel_any (w : World) (n : Int) (a : Option Addr) (m c : Nat) (q : Nat → Int) (hv : RdF w (.slice a m c) m (fun j => .int .i64 (q j))) :
    Calls Try.prog 3 #[.int .i64 n, .slice a m c] w fun e w' => e = .returned (.bool true) ∧ Fr [] w w' := by
  have HV := Lib.hid hv; clear hv
  go_enter Try.func3, Try.ntmps3
  go_wp2_with fail
  refine (pooled_any _).mono ?_
  rintro e w0 ⟨rfl, hf0⟩
  have HF0 := Lib.hid hf0; clear hf0
  go_wp2_with fail
  refine (least_new _ n).mono ?_
  rintro e w1 ⟨hf1, ⟨hok, p, g, rfl, hp, hg, hP⟩ | ⟨hno, rfl⟩⟩
  · have HF1 := Lib.hid (HF0.out.trans hf1 (S := []) (by simp)); clear hf1
    have hs0 := HF0.out.size
    unfold LOk at hok
    obtain ⟨N, rfl⟩ : ∃ N : Nat, n = (N : Int) := ⟨n.toNat, by omega⟩
    simp only [Int.toNat_natCast] at hP
    have hN : 1 ≤ N ∧ N ≤ 40 := by omega
    clear hok
    have hpw : w.heap.size ≤ p ∧ w.heap.size ≤ g := by omega
    clear hp hg hs0
    by_cases hm : m ≤ 60
    · have HP := Lib.hid hP; clear hP
      go_wp2
      go_loopw [8] (fun i wr => ∃ (k : Nat) (f : Nat → Int), k ≤ m ∧ i = .int .i64 k ∧ Pool wr p g N N f ∧ Level f N k ∧ Fr [] w wr) (fun i _ => m - (intOf i).toNat)
      case atStart => exact ⟨0, _, by omega, rfl, HP.out, level_zero N, HF1.out⟩
      case round =>
        obtain ⟨k, f, hk, rfl, hP, hlev, hf⟩ := hrel
        have HF := Lib.hid hf; clear hf
        have HL := Lib.hid hlev; clear hlev
        by_cases hlt : k < m
        · obtain ⟨b1, o1, c1, he1, _, _, _, hc1⟩ := HV.out.shape (by omega)
          simp only [Value.slice.injEq, true_and] at he1
          obtain ⟨rfl, rfl⟩ := he1
          have K1 := Lib.hid (hc1 k hlt)
          clear hc1
          go_wp2_with fail
          refine (least_load _ p g N N f hP (by omega) (by omega)).mono ?_
          rintro e w2 ⟨g2, c2, rfl, hg2, hr2, hf2⟩
          have hsz := HF.out.size
          have HP2 := Lib.hid (hP.kept hf2 (by simp)); clear hP
          have HF2 := Lib.hid (HF.out.trans hf2 (by simp)); clear hf2 HF
          have HR2 := Lib.hid hr2; clear hr2
          have k1 := HF2.out.cell K1.out (by simp)
          obtain ⟨z, hz⟩ : ∃ z, z = q k := ⟨_, rfl⟩
          rw [← hz] at k1
          clear hz K1
          have k0 : (0 : Int) ≤ (k : Int) := by omega
          have k3 : (k : Int) < (m : Int) := by omega
          go_wp2
          go_loopw [11, 12] (fun hh j wx => ∃ t : Nat, t ≤ N ∧ j = .int .i64 t ∧ hh = .int .i64 (mxa 0 f t) ∧ wx = w2) (fun _ j _ => N - (intOf j).toNat)
          case atStart => exact ⟨0, by omega, rfl, rfl, by trivial⟩
          case round =>
            obtain ⟨t, ht, rfl, rfl, rfl⟩ := hrel
            by_cases hlt2 : t < N
            · have x1 := HR2.out.cell t hlt2
              have t0 : (0 : Int) ≤ (t : Int) := by omega
              have t3 : (t : Int) < (N : Int) := by omega
              clear k1
              go_wp2
              go_roundw
              case rel => exact ⟨t + 1, by omega, by go_num, by rw [mxa_succ], by trivial⟩
              case measure => simp [intOf]; omega
            · obtain rfl : t = N := by omega
              have hq0 : z < 0 ∨ (0 ≤ z ∧ z < t ∧ f z.toNat = mxa 0 f t ∧ 0 < mxa 0 f t) ∨ (0 ≤ z ∧ ¬ (z < t ∧ f z.toNat = mxa 0 f t ∧ 0 < mxa 0 f t)) := by
                by_cases h1 : z < 0
                · exact .inl h1
                · by_cases h2 : (z < t ∧ f z.toNat = mxa 0 f t ∧ 0 < mxa 0 f t)
                  · exact .inr (.inl ⟨by omega, h2⟩)
                  · exact .inr (.inr ⟨by omega, h2⟩)
              go_upto_if 68 with fail
              go_cut [] (fun wy => ∃ f', Pool wy p g t t f' ∧ Level f' t (k + 1) ∧ Fr [] w wy)
              case first =>
                have hb : ∀ j, j < t → 0 ≤ f j ∧ f j ≤ 1000000 := fun j hj => by have := HL.out.2 j hj; omega
                have HB := Lib.hid hb; clear hb
                rcases hq0 with h1 | ⟨h1, h2, h3, h4⟩ | ⟨h1, h2⟩
                · go_wp2_with fail
                  refine (least_start _ p g t t f HP2.out (by omega) (by omega) HB.out).mono ?_
                  rintro e w3 ⟨rfl, hP3, hf3⟩
                  have HP3 := Lib.hid hP3; clear hP3
                  have HF3 := Lib.hid (HF2.out.trans hf3 (S := []) (by simp; omega)); clear hf3
                  go_wp2_with fail
                  go_meet
                  exact ⟨_, HP3.out, level_start HL.out (by omega), HF3.out⟩
                · obtain ⟨b, rfl⟩ : ∃ b : Nat, z = (b : Int) := ⟨z.toNat, by omega⟩
                  simp only [Int.toNat_natCast] at h3
                  have x1 := HR2.out.cell b (by omega)
                  have HL3 := Lib.hid (level_end HL.out (by omega : b < t) h3 (by omega))
                  have hbb := HB.out b (by omega)
                  have b0 : (0 : Int) ≤ (b : Int) := by omega
                  rw [h3] at x1
                  have h3' : (mxa 0 f t == mxa 0 f t) = true := by simp
                  generalize hmm : mxa 0 f t = mm at *
                  have HMM := Lib.hid hmm; clear hmm
                  have HH3 := Lib.hid h3; clear h3
                  go_wp2_with fail
                  refine (least_end _ p g t t f b HP2.out (by omega) (by omega) (by have := HH3.out; omega)).mono ?_
                  rintro e w3 ⟨rfl, hP3, hf3⟩
                  have HP3 := Lib.hid hP3; clear hP3
                  have HF3 := Lib.hid (HF2.out.trans hf3 (S := []) (by simp; omega)); clear hf3
                  go_wp2_with fail
                  go_meet
                  exact ⟨_, HP3.out, HL3.out, HF3.out⟩
                · by_cases h3 : z < t
                  · obtain ⟨b, rfl⟩ : ∃ b : Nat, z = (b : Int) := ⟨z.toNat, by omega⟩
                    simp only [Int.toNat_natCast] at h2
                    have x1 := HR2.out.cell b (by omega)
                    have b0 : (0 : Int) ≤ (b : Int) := by omega
                    by_cases h4 : f b = mxa 0 f t
                    · have h5 : ¬ 0 < mxa 0 f t := fun h5 => h2 ⟨h3, h4, h5⟩
                      rw [h4] at x1
                      clear h2 h4
                      go_wp2_with fail
                      go_meet
                      exact ⟨_, HP2.out, level_mono HL.out, HF2.out⟩
                    · have h6 : (f b == mxa 0 f t) = false := by simp; omega
                      clear h2 h4
                      go_wp2_with fail
                      go_meet
                      exact ⟨_, HP2.out, level_mono HL.out, HF2.out⟩
                  · clear h2
                    go_wp2_with fail
                    go_meet
                    exact ⟨_, HP2.out, level_mono HL.out, HF2.out⟩
              case rest =>
                obtain ⟨f', hP', hl', hf'⟩ := hcut
                clear hq0 k1
                have HL' := Lib.hid hl'; clear hl'
                have HF' := Lib.hid hf'; clear hf'
                go_wp2_with fail
                refine (least_load _ p g t t f' hP' (by omega) (by omega)).mono ?_
                rintro e w5 ⟨g5, c5, rfl, hg5, hr5, hf5⟩
                have HP5 := Lib.hid (hP'.kept hf5 (by simp)); clear hP'
                have HF5 := Lib.hid (HF'.out.trans hf5 (by simp)); clear hf5 HF'
                have y0 := hr5.cell 0 (by omega)
                have HR5 := Lib.hid hr5; clear hr5
                go_wp2
                go_loopw [11, 13, 14] (fun hh ll j wx => ∃ t' : Nat, t' ≤ t ∧ j = .int .i64 t' ∧ hh = .int .i64 (mxa (f' 0) f' t') ∧ ll = .int .i64 (mna (f' 0) f' t') ∧ wx = w5) (fun _ _ j _ => t - (intOf j).toNat)
                case atStart => exact ⟨0, by omega, rfl, rfl, rfl, by trivial⟩
                case round =>
                  obtain ⟨t', ht', rfl, rfl, rfl, rfl⟩ := hrel
                  by_cases hlt3 : t' < t
                  · have x1 := HR5.out.cell t' hlt3
                    have t0 : (0 : Int) ≤ (t' : Int) := by omega
                    have t3 : (t' : Int) < (t : Int) := by omega
                    clear y0
                    go_wp2
                    go_roundw
                    case rel => exact ⟨t' + 1, by omega, by go_num, by rw [mxa_succ], by rw [mna_succ], by trivial⟩
                    case measure => simp [intOf]; omega
                  · obtain rfl : t' = t := by omega
                    have hbd : ∀ j, j < t' → 0 ≤ f' j ∧ f' j ≤ 61 := fun j hj => by have := HL'.out.2 j hj; omega
                    have e1 := mxa_bound (f' 0) f' t' 0 61 (hbd 0 (by omega)) hbd
                    have e2 := mna_bound (f' 0) f' t' 0 61 (hbd 0 (by omega)) hbd
                    have e3 := level_told HL'.out (by omega)
                    clear hbd y0
                    go_wp2
                    go_roundw
                    case rel => exact ⟨k + 1, f', by omega, by go_num, HP5.out, HL'.out, HF5.out⟩
                    case measure => simp [intOf]; omega
        · obtain rfl : k = m := by omega
          go_wp2
          go_ret
          exact ⟨rfl, HF.out⟩
    · have HP := Lib.hid hP; clear hP
      go_wp2
      go_ret
      exact ⟨rfl, HF1.out⟩
  · have HF1 := Lib.hid (HF0.out.trans hf1 (S := []) (by simp)); clear hf1
    go_wp2
    go_ret
    exact ⟨rfl, HF1.out⟩

end Go.Proofs.Ythopnlnknicgbaa
