/- The reference's TallyWith. -/
import Derived.Test.YtgpfkaiinbncnaaDoorTallyRef
namespace Go.Proofs.YtgpfkaiinbncnaaDoor
open Go.RowKit

theorem trm_far (S : Nat → Int) (N : Nat) (h : ∀ j, N ≤ j → S j = 0) : ∀ M, N ≤ M → trm S M = trm S N := by
  intro M hM
  induction M with
  | zero => have : N = 0 := by omega
            subst this; rfl
  | succ M ih =>
    by_cases h1 : N = M + 1
    · rw [h1]
    · rw [← ih (by omega)]
      show (if S M = 0 then trm S M else M + 1) = trm S M
      rw [if_pos (h M (by omega))]

/-- how long the longer one is -/
def mx (n m : Nat) : Nat := if n < m then m else n

theorem bth_far (n : Nat) (f : Nat → Int) (m : Nat) (g : Nat → Int) (j : Nat) (h : mx n m ≤ j) : bth n f m g j = 0 := by
  unfold mx at h
  unfold bth pl64
  have h1 : n ≤ j := by split at h <;> omega
  have h2 : m ≤ j := by split at h <;> omega
  rw [if_neg (by omega), if_neg (by omega)]
  rfl

theorem tk_far (S : Nat → Int) (N : Nat) (hN : N ≤ 64) (h : ∀ j, N ≤ j → S j = 0) (hg : ∀ j, j < N → S j ≤ 1125899906842624) : tk S = 0 := by
  unfold tk tkN
  rw [if_pos]
  intro j _
  by_cases hj : j < N
  · exact hg j hj
  · rw [h j (by omega)]; decide

theorem tk_bad (S : Nat → Int) (k : Nat) (hk : k < 64) (h : 1125899906842624 < S k) : tk S = 7 := by
  unfold tk tkN
  rw [if_neg]
  intro hg
  have := hg k hk
  omega

set_option maxRecDepth 100000 in
set_option maxHeartbeats 4000000 in
theorem with_any (w : World) (a : Option Addr) (n c : Nat) (f : Nat → Int) (b : Option Addr) (m d : Nat) (g : Nat → Int) (hv : RdF w (.slice a n c) n (fun j => .int .i64 (f j))) (hu : RdF w (.slice b m d) m (fun j => .int .i64 (g j)))
    (hn : n ≤ 64) (hm : m ≤ 64) (hf : ∀ j, j < n → 0 ≤ f j ∧ f j ≤ 1125899906842624) (hg : ∀ j, j < m → 0 ≤ g j ∧ g j ≤ 1125899906842624) :
    Calls Tryd.prog 21 #[.slice a n c, .slice b m d] w fun e w' => ∃ o c, e = .returned (.tuple #[.slice o (tl (tk (bth n f m g)) (bth n f m g)) c, .int .i64 (tk (bth n f m g))]) ∧
      RdF w' (.slice o (tl (tk (bth n f m g)) (bth n f m g)) c) (tl (tk (bth n f m g)) (bth n f m g)) (fun j => .int .i64 (bth n f m g j)) ∧ Fr [] w w' := by
  have HV := Lib.hid hv; clear hv
  have HU := Lib.hid hu; clear hu
  have HB1 := Lib.hid (pl64_bd hf)
  have HB2 := Lib.hid (pl64_bd hg)
  have HFA := Lib.hid (bth_far n f m g)
  have hS : ∀ k, bth n f m g k = (if k < n then f k else 0) + (if k < m then g k else 0) := fun k => rfl
  have HS := Lib.hid hS; clear hS
  have HBD := Lib.hid (show ∀ j, 0 ≤ bth n f m g j ∧ bth n f m g j ≤ 2251799813685248 from fun j => by
    have := HB1.out j; have := HB2.out j; unfold bth; omega)
  have hN : mx n m ≤ 64 := by unfold mx; split <;> omega
  have hmx : ∀ k, k < mx n m ↔ (k < n ∨ k < m) := fun k => by unfold mx; split <;> omega
  have HMX := Lib.hid hmx; clear hmx
  clear HB1 HB2
  generalize hSS : bth n f m g = S at *
  clear hSS
  generalize mx n m = N at *
  go_enter Tryd.func21, Tryd.ntmps21
  go_wp2
  go_loopw [6, 7] (fun v i wr => ∃ k : Nat, k ≤ N ∧ i = .int .i64 k ∧ OwnF wr w.heap.size 3 v k (fun j => .int .i64 (S j)) ∧ Hid (∀ j, j < k → S j ≤ 1125899906842624) ∧ Fr [] w wr) (fun _ i _ => N - (intOf i).toNat)
  case atStart => exact ⟨0, by omega, rfl, OwnF.nil _ _ _ _, Lib.hid (fun j hj => by omega), Fr.refl _ _⟩
  case round =>
    obtain ⟨k, hk, rfl, ho, HG, hfr⟩ := hrel
    have HO := Lib.hid ho; clear ho
    have HF := Lib.hid hfr; clear hfr
    obtain ⟨va, vc, hva⟩ := HO.out.rd.slice
    subst hva
    have k0 : (0 : Int) ≤ (k : Int) := by omega
    have hsk := HS.out k
    have hbd := HBD.out k
    by_cases hlt : k < N
    · rcases (by have := (HMX.out k).1 hlt; omega : (k < n ∧ k < m) ∨ (k < n ∧ ¬ k < m) ∨ (¬ k < n ∧ k < m)) with ⟨h1, h2⟩ | ⟨h1, h2⟩ | ⟨h1, h2⟩
      · obtain ⟨b1, o1, c1, he1, _, _, _, hc1⟩ := HV.out.shape (by omega)
        simp only [Value.slice.injEq, true_and] at he1
        obtain ⟨rfl, rfl⟩ := he1
        have x1 := HF.out.cell (hc1 k h1) (by simp)
        clear hc1
        have bd1 := hf k h1
        have i1 : (k : Int) < (n : Int) := by omega
        obtain ⟨b2, o2, c2, he2, _, _, _, hc2⟩ := HU.out.shape (by omega)
        simp only [Value.slice.injEq, true_and] at he2
        obtain ⟨rfl, rfl⟩ := he2
        have x2 := HF.out.cell (hc2 k h2) (by simp)
        clear hc2
        have bd2 := hg k h2
        have i2 : (k : Int) < (m : Int) := by omega
        rw [if_pos h1, if_pos h2] at hsk
        have HSK := Lib.hid hsk
        rw [hsk] at hbd
        clear hsk
        by_cases hbig : 1125899906842624 < f k + g k
        · have HE7 := Lib.hid (tk_bad S k (by omega) (by rw [HSK.out]; exact hbig))
          have HL0 := Lib.hid (show tl (tk S) S = 0 by unfold tl; rw [if_neg (by rw [HE7.out]; decide)])
          go_wp2
          go_ret2
          rw [HL0.out, HE7.out]
          exact ⟨none, 0, rfl, RdF.nilv, HF.out⟩
        · have HG2 := Lib.hid (show ∀ j, j < k + 1 → S j ≤ 1125899906842624 from fun j hj => by
            by_cases hjk : j < k
            · exact HG.out j hjk
            · rw [show j = k by omega, HSK.out]; omega)
          go_wp2_with (at_builtin; refine wpList_app rfl (.tmp 44) (.tmp 46) 28 rfl 3 infoInt Tryd.underlying28 rfl (HO.out.alloc _) rfl (rd_one _ _ _ (by simp)) rfl (fun _ _ => rfl) (by unfold maxLen; omega) (by omega) (by have := HF.out.size; simp; omega) ?_; intro v4 w4 ho4 hf4 hn4)
          have HO4 := Lib.hid (ho4.congr (f' := fun j => .int .i64 (S j)) (fun j hj => by
            unfold app
            by_cases h4 : j < k
            · rw [if_pos h4]
            · obtain rfl : j = k := by omega
              rw [if_neg h4, HSK.out]))
          have HF4 := Lib.hid (HF.out.app _ hf4 HO.out.ge)
          clear ho4 hf4 hn4
          go_wp2
          go_roundw
          case rel => exact ⟨k + 1, by omega, by go_num, HO4.out, HG2, HF4.out⟩
          case measure => simp [intOf]; omega
      · obtain ⟨b1, o1, c1, he1, _, _, _, hc1⟩ := HV.out.shape (by omega)
        simp only [Value.slice.injEq, true_and] at he1
        obtain ⟨rfl, rfl⟩ := he1
        have x1 := HF.out.cell (hc1 k h1) (by simp)
        clear hc1
        have bd1 := hf k h1
        have i1 : (k : Int) < (n : Int) := by omega
        have d2 : decide ((k : Int) < (m : Int)) = false := by simp; omega
        have d4 : decide (k < m) = false := by simp; omega
        rw [if_pos h1, if_neg h2, Int.add_zero] at hsk
        have HSK := Lib.hid hsk
        rw [hsk] at hbd
        clear hsk
        by_cases hbig : 1125899906842624 < f k
        · have HE7 := Lib.hid (tk_bad S k (by omega) (by rw [HSK.out]; exact hbig))
          have HL0 := Lib.hid (show tl (tk S) S = 0 by unfold tl; rw [if_neg (by rw [HE7.out]; decide)])
          go_wp2
          go_ret2
          rw [HL0.out, HE7.out]
          exact ⟨none, 0, rfl, RdF.nilv, HF.out⟩
        · have HG2 := Lib.hid (show ∀ j, j < k + 1 → S j ≤ 1125899906842624 from fun j hj => by
            by_cases hjk : j < k
            · exact HG.out j hjk
            · rw [show j = k by omega, HSK.out]; omega)
          go_wp2_with (at_builtin; refine wpList_app rfl (.tmp 44) (.tmp 46) 28 rfl 3 infoInt Tryd.underlying28 rfl (HO.out.alloc _) rfl (rd_one _ _ _ (by simp)) rfl (fun _ _ => rfl) (by unfold maxLen; omega) (by omega) (by have := HF.out.size; simp; omega) ?_; intro v4 w4 ho4 hf4 hn4)
          have HO4 := Lib.hid (ho4.congr (f' := fun j => .int .i64 (S j)) (fun j hj => by
            unfold app
            by_cases h4 : j < k
            · rw [if_pos h4]
            · obtain rfl : j = k := by omega
              rw [if_neg h4, HSK.out]))
          have HF4 := Lib.hid (HF.out.app _ hf4 HO.out.ge)
          clear ho4 hf4 hn4
          go_wp2
          go_roundw
          case rel => exact ⟨k + 1, by omega, by go_num, HO4.out, HG2, HF4.out⟩
          case measure => simp [intOf]; omega
      · have d1 : decide ((k : Int) < (n : Int)) = false := by simp; omega
        have d3 : decide (k < n) = false := by simp; omega
        obtain ⟨b2, o2, c2, he2, _, _, _, hc2⟩ := HU.out.shape (by omega)
        simp only [Value.slice.injEq, true_and] at he2
        obtain ⟨rfl, rfl⟩ := he2
        have x2 := HF.out.cell (hc2 k h2) (by simp)
        clear hc2
        have bd2 := hg k h2
        have i2 : (k : Int) < (m : Int) := by omega
        rw [if_neg h1, if_pos h2, Int.zero_add] at hsk
        have HSK := Lib.hid hsk
        rw [hsk] at hbd
        clear hsk
        by_cases hbig : 1125899906842624 < g k
        · have HE7 := Lib.hid (tk_bad S k (by omega) (by rw [HSK.out]; exact hbig))
          have HL0 := Lib.hid (show tl (tk S) S = 0 by unfold tl; rw [if_neg (by rw [HE7.out]; decide)])
          go_wp2
          go_ret2
          rw [HL0.out, HE7.out]
          exact ⟨none, 0, rfl, RdF.nilv, HF.out⟩
        · have HG2 := Lib.hid (show ∀ j, j < k + 1 → S j ≤ 1125899906842624 from fun j hj => by
            by_cases hjk : j < k
            · exact HG.out j hjk
            · rw [show j = k by omega, HSK.out]; omega)
          go_wp2_with (at_builtin; refine wpList_app rfl (.tmp 44) (.tmp 46) 28 rfl 3 infoInt Tryd.underlying28 rfl (HO.out.alloc _) rfl (rd_one _ _ _ (by simp)) rfl (fun _ _ => rfl) (by unfold maxLen; omega) (by omega) (by have := HF.out.size; simp; omega) ?_; intro v4 w4 ho4 hf4 hn4)
          have HO4 := Lib.hid (ho4.congr (f' := fun j => .int .i64 (S j)) (fun j hj => by
            unfold app
            by_cases h4 : j < k
            · rw [if_pos h4]
            · obtain rfl : j = k := by omega
              rw [if_neg h4, HSK.out]))
          have HF4 := Lib.hid (HF.out.app _ hf4 HO.out.ge)
          clear ho4 hf4 hn4
          go_wp2
          go_roundw
          case rel => exact ⟨k + 1, by omega, by go_num, HO4.out, HG2, HF4.out⟩
          case measure => simp [intOf]; omega
    · obtain rfl : k = N := by omega
      have h12 := (HMX.out k)
      have hkn : ¬ k < n := fun h => by have := h12.2 (.inl h); omega
      have hkm : ¬ k < m := fun h => by have := h12.2 (.inr h); omega
      have d1 : decide ((k : Int) < (n : Int)) = false := by simp; omega
      have d2 : decide ((k : Int) < (m : Int)) = false := by simp; omega
      have d3 : decide (k < n) = false := by simp; omega
      have d4 : decide (k < m) = false := by simp; omega
      have etk : tk S = 0 := tk_far S k hN HFA.out HG.out
      have etl : tl (tk S) S = trm S k := by unfold tl; rw [if_pos etk, trm_far S k HFA.out 64 hN]
      have HTL := Lib.hid etl
      have HTK := Lib.hid etk
      clear etl etk h12 hsk hbd
      go_wp2
      go_loopw [9] (fun i wx => ∃ q : Nat, q ≤ k ∧ i = .int .i64 q ∧ Hid (trm S k = trm S q) ∧ Fr [] wr wx) (fun i _ => (intOf i).toNat)
      case atStart => exact ⟨k, by omega, rfl, Lib.hid rfl, Fr.refl _ _⟩
      case round =>
        obtain ⟨q, hq, rfl, HT, hfx⟩ := hrel
        have HFX := Lib.hid hfx; clear hfx
        have HO2 := Lib.hid (HO.out.kept HFX.out (by simp))
        by_cases hz : q = 0
        · subst hz
          have HE := Lib.hid (show trm S k = 0 from HT.out)
          go_wp2
          go_ret2
          rw [HTL.out, HTK.out, HE.out]
          exact ⟨_, _, rfl, by
            rcases HO2.out with ⟨h, _⟩ | ⟨g1, cap, h, _, hr⟩
            · simp only [Value.slice.injEq] at h
              obtain ⟨rfl, -, rfl⟩ := h
              exact RdF.nilv
            · simp only [Value.slice.injEq] at h
              obtain ⟨rfl, -, rfl⟩ := h
              exact (hr.take 0 (by omega)).rd, HF.out.trans HFX.out (by simp)⟩
        · obtain ⟨j, rfl⟩ : ∃ j, q = j + 1 := ⟨q - 1, by omega⟩
          obtain ⟨g1, cap, e1, hg1, hr1⟩ := HO2.out.row (by omega)
          simp only [Value.slice.injEq, true_and] at e1
          obtain ⟨rfl, rfl⟩ := e1
          have x1 := hr1.cell j (by omega)
          have hcl := hr1.le
          have HR1 := Lib.hid hr1; clear hr1
          have e2 : ((j : Int) + 1) - 1 = (j : Int) := by omega
          by_cases hfz : S j = 0
          · rw [hfz] at x1
            have HT2 := Lib.hid (HT.out.trans (show trm S (j + 1) = trm S j from by show (if S j = 0 then trm S j else j + 1) = trm S j; rw [if_pos hfz]))
            clear hfz
            go_wp2
            go_roundw
            case rel => exact ⟨j, by omega, by go_num, HT2, HFX.out⟩
            case measure => simp [intOf]
          · have HE := Lib.hid (show trm S k = j + 1 from HT.out.trans (by show (if S j = 0 then trm S j else j + 1) = j + 1; rw [if_neg hfz]))
            have h3 : (S j == 0) = false := by simpa using hfz
            clear hfz
            go_wp2
            go_ret2
            rw [HTL.out, HTK.out, HE.out]
            exact ⟨_, _, rfl, (HR1.out.take (j + 1) (by omega)).rd, HF.out.trans HFX.out (by simp)⟩

end Go.Proofs.YtgpfkaiinbncnaaDoor
