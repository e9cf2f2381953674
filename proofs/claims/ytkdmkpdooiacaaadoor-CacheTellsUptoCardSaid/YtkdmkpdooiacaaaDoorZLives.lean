/- The reference's Lives: how long a message lives, what is wrong. -/
import Derived.Test.YtkdmkpdooiacaaaDoorZbase3
namespace Go.Proofs.YtkdmkpdooiacaaaDoor
open Go.RowKit

theorem lifT_all {P : Int → Prop} (base : Nat) (T0 : Nat → Int) (M : Nat → Rs) (k : Nat) (h0 : ∀ j, j < base → P (T0 j)) (hM : ∀ j, j < k → P (M j).tt) : ∀ j, j < base + nopN M k → P (lifT base T0 M k j) := by
  induction k with
  | zero => exact fun j hj => h0 j hj
  | succ k ih =>
    have ih2 := ih (fun j hj => hM j (by omega))
    intro j hj
    by_cases h : (M k).ty = 41
    · simp only [lifT, nopN, if_pos h] at hj ⊢
      exact ih2 j hj
    · simp only [lifT, nopN, if_neg h] at hj ⊢
      by_cases e : j = base + nopN M k
      · rw [if_pos e]; exact hM k (by omega)
      · rw [if_neg e]; exact ih2 j (by omega)

/-- no TTL out of reach: the program's lists say so too -/
theorem tbad_ok (m : Ms) (h : ∀ i, i < m.N → 0 ≤ (m.R i).tt ∧ (m.R i).tt ≤ 4294967295) : tbad m.T2 (m.N1 + m.mn) = false := by
  have hM : ∀ j, j < m.mn → 0 ≤ (m.M j).tt ∧ (m.M j).tt ≤ 4294967295 := fun j hj => by
    have h2 := h (m.an + m.un + j) (by unfold Ms.N; omega)
    rw [R_more] at h2
    exact h2
  have h1 := lifT_all (P := fun x => 0 ≤ x ∧ x ≤ 4294967295) (m.an + m.un) m.T0 m.M m.mn (fun j hj => by
    have h2 := h j (by unfold Ms.N; omega)
    rw [R_low m hj] at h2
    exact h2) hM
  have ha : ∀ n, n ≤ m.N1 + m.mn → tbad m.T2 n = false := fun n => by
    induction n with
    | zero => exact fun _ => rfl
    | succ n ih =>
      intro hn
      have h3 : 0 ≤ m.T2 n ∧ m.T2 n ≤ 4294967295 := by
        unfold Ms.T2 catT
        by_cases e : n < m.N1
        · rw [if_pos e]; exact h1 n e
        · rw [if_neg e]; exact hM _ (by omega)
      simp only [tbad, ih (by omega), Bool.false_or]
      rw [decide_eq_false (by omega), decide_eq_false (by omega)]
      rfl
  exact ha _ (Nat.le_refl _)

theorem life_bad (m : Ms) {i : Nat} (hi : i < m.N) (h : (m.R i).tt < 0 ∨ 4294967295 < (m.R i).tt) : lifeZ m = 6 ∧ lifeV m = 0 := by
  have h1 : tbad m.T2 (m.N1 + m.mn) = true := by
    cases hb : tbad m.T2 (m.N1 + m.mn)
    · have := tt_ok m hb i hi
      omega
    · rfl
  have hz : lifeZ m = 6 := by unfold lifeZ; rw [if_pos h1]
  exact ⟨hz, by unfold lifeV; rw [hz, if_neg (by decide)]⟩

theorem life_fine (m : Ms) (h : ∀ i, i < m.N → 0 ≤ (m.R i).tt ∧ (m.R i).tt ≤ 4294967295) : lifeZ m = (if lngF m m.N ≤ 0 then 9 else 0) ∧ lifeV m = (if lngF m m.N ≤ 0 then 0 else lngF m m.N) := by
  have h1 := tbad_ok m h
  have e : lngF m m.N = lmn m.T1 m.N1 := lng_more m m.mn
  have hz : lifeZ m = (if lngF m m.N ≤ 0 then 9 else 0) := by unfold lifeZ; rw [h1, e, if_neg (by decide)]
  refine ⟨hz, ?_⟩
  unfold lifeV
  rw [hz]
  by_cases h2 : lngF m m.N ≤ 0
  · rw [if_pos h2, if_pos h2, if_neg (by decide)]
  · rw [if_neg h2, if_neg h2, if_pos rfl, e]

theorem lngF_bd (m : Ms) (i : Nat) (h : ∀ j, j < i → 0 ≤ (m.R j).tt ∧ (m.R j).tt ≤ 4294967295) : -1 ≤ lngF m i ∧ lngF m i ≤ 4294967295 := by
  induction i with
  | zero => exact ⟨by simp only [lngF]; omega, by simp only [lngF]; omega⟩
  | succ i ih =>
    have h1 := ih (fun j hj => h j (by omega))
    have h2 := h i (by omega)
    simp only [lngF]
    split
    · split <;> omega
    · exact h1

set_option maxHeartbeats 4000000 in
set_option maxRecDepth 100000 in
theorem lives_any (w : World) (B : HB) (m : Ms) (vq va vu vm : Value) (hm : MsOk B w m vq va vu vm) (hS : ∀ x ∈ B.s, x < w.heap.size) (hsz : (m.an + m.un + m.mn) * 72 ≤ 140737488355328) :
    Calls Tryd.prog 24 #[msgV m.h vq va vu vm] w fun e w' => e = .returned (.tuple #[.int .i64 (lifeV m), .int .i64 (lifeZ m)]) ∧ Fr [] w w' := by
  have HALL := Lib.hid (fun wx (h : Fr [] w wx) => all_any wx B m vq va vu vm (hm.frH (h.hot0 B)) (fun x hx => Nat.lt_of_lt_of_le (hS x hx) h.size) hsz)
  obtain ⟨_, hm1⟩ := hm.hq
  obtain ⟨_, hm2⟩ := hm.ha
  obtain ⟨_, hm3⟩ := hm.hu
  obtain ⟨_, hm4⟩ := hm.hm
  obtain ⟨mb, mc, rfl⟩ := hm1.rd.slice
  obtain ⟨ab, ac, rfl⟩ := hm2.rd.slice
  obtain ⟨ub, uc, rfl⟩ := hm3.rd.slice
  obtain ⟨nb, nc, rfl⟩ := hm4.rd.slice
  have HN := Lib.hid (show m.N = m.an + m.un + m.mn from rfl)
  have HBAD := Lib.hid (fun i (hi : i < m.N) h => life_bad m hi h)
  have HFINE := Lib.hid (fun h => life_fine m h)
  have HLV := Lib.hid (show ∀ i, m.lv i ↔ (i < m.an + m.un ∨ (m.R i).ty ≠ 41) from fun i => Iff.rfl)
  have HST := Lib.hid (show ∀ i, lngF m (i + 1) = if m.lv i then (if lngF m i < 0 ∨ (m.R i).tt < lngF m i then (m.R i).tt else lngF m i) else lngF m i from fun i => rfl)
  have HBD := Lib.hid (fun i h => lngF_bd m i h)
  have H0 := Lib.hid (show lngF m 0 = -1 from rfl)
  clear hm hm1 hm2 hm3 hm4 hS
  obtain ⟨mh, emh⟩ : ∃ x, m.h = x := ⟨_, rfl⟩
  rw [emh] at HALL ⊢
  clear emh
  generalize m.qn = nq at *
  generalize m.an = na at *
  generalize m.un = nu at *
  generalize m.mn = nm at *
  generalize lifeV m = LV at *
  generalize lifeZ m = LZ at *
  generalize m.N = NN at *
  obtain ⟨h0, h1, h2, h3, h4, h5, h6, h7, h8, h9, h10⟩ := mh
  simp only [msgV] at HALL ⊢
  have HF1 := Lib.hid (show Fr [] w (w.alloc (.cells #[.int .i64 h0, .bool h1, .int .i64 h2, .bool h3, .bool h4, .bool h5, .bool h6, .bool h7, .bool h8, .bool h9, .int .i64 h10, .slice mb nq mc, .slice ab na ac, .slice ub nu uc, .slice nb nm nc] 43)) from (Fr.refl [] w).alloc _)
  have HB1 := Lib.hid (heap_alloc_new w (.cells #[.int .i64 h0, .bool h1, .int .i64 h2, .bool h3, .bool h4, .bool h5, .bool h6, .bool h7, .bool h8, .bool h9, .int .i64 h10, .slice mb nq mc, .slice ab na ac, .slice ub nu uc, .slice nb nm nc] 43))
  go_enter Tryd.func24, Tryd.ntmps24
  go_wp2_with fail
  generalize w.alloc (.cells #[.int .i64 h0, .bool h1, .int .i64 h2, .bool h3, .bool h4, .bool h5, .bool h6, .bool h7, .bool h8, .bool h9, .int .i64 h10, .slice mb nq mc, .slice ab na ac, .slice ub nu uc, .slice nb nm nc] 43) = W at *
  refine (HALL.out W HF1.out).mono ?_
  rintro e w2 ⟨v2, G, rfl, _, hS2, hf2⟩
  have HF2 := Lib.hid (HF1.out.trans hf2 (by simp))
  have HB2 := Lib.hid (hf2.blk HB1.out (by simp))
  have x14 : w2.cell? ⟨w.heap.size, 14, none⟩ = some (.slice nb nm nc) := blk_cell HB2.out 14 rfl
  obtain ⟨a2, c2, rfl⟩ := hS2.rd.slice
  have HS2 := Lib.hid hS2
  have hnb := hS2.nb
  clear hf2 hS2 HALL HB1 HF1
  go_wp2_with fail
  go_loopw [5, 6] (fun vl vi wr => ∃ i : Nat, i ≤ NN ∧ vi = .int .i64 i ∧ vl = .int .i64 (lngF m i) ∧ (∀ j, j < i → 0 ≤ (m.R j).tt ∧ (m.R j).tt ≤ 4294967295) ∧ wr = w2) (fun _ vi _ => NN - (intOf vi).toNat)
  case atStart => exact ⟨0, by omega, rfl, by rw [H0.out], fun j hj => by omega, rfl⟩
  case round =>
    obtain ⟨i, hi, rfl, rfl, hok, rfl⟩ := hrel
    have HOK := Lib.hid hok
    have hbd := HBD.out i hok
    clear hok
    by_cases hlt : i < NN
    · obtain ⟨b1, o1, c1, he1, _, _, _, hc1⟩ := HS2.out.rd.shape (by omega) (by decide)
      simp only [Value.slice.injEq, true_and] at he1
      obtain ⟨rfl, rfl⟩ := he1
      obtain ⟨na', nc', da', dc', hF, _⟩ := HS2.out.at_ i hlt
      have k1 := hc1 i 1 hlt (by decide)
      have k3 := hc1 i 3 hlt (by decide)
      rw [hF 1 (by decide)] at k1
      rw [hF 3 (by decide)] at k3
      simp only [Rs.F] at k1 k3
      clear hc1 hF
      have k0 : (0 : Int) ≤ (i : Int) := by omega
      have k9 : (i : Int) < (NN : Int) := by omega
      have HBADI := Lib.hid (HBAD.out i hlt)
      have HSTI := Lib.hid (HST.out i)
      have HLVI := Lib.hid (HLV.out i)
      have hNN : (NN : Int) - (nm : Int) = ((na + nu : Nat) : Int) := by have := HN.out; omega
      have HOKI := Lib.hid (fun (h : 0 ≤ (m.R i).tt ∧ (m.R i).tt ≤ 4294967295) => show ∀ j, j < i + 1 → 0 ≤ (m.R j).tt ∧ (m.R j).tt ≤ 4294967295 from fun j hj => by
        by_cases e : j = i
        · rw [e]; exact h
        · exact HOK.out j (by omega))
      generalize (m.R i).tt = tt at *
      generalize (m.R i).ty = ty at *
      generalize lngF m i = lg at *
      have hnn : 0 ≤ NN := Nat.zero_le _
      by_cases hb1 : tt < 0
      · have HZ := Lib.hid (HBADI.out (.inl hb1))
        go_wp2_with fail
        go_ret2
        exact ⟨by rw [HZ.out.1, HZ.out.2]; rfl, HF2.out⟩
      by_cases hb2 : 4294967295 < tt
      · have HZ := Lib.hid (HBADI.out (.inr hb2))
        go_wp2_with fail
        go_ret2
        exact ⟨by rw [HZ.out.1, HZ.out.2]; rfl, HF2.out⟩
      have HOK2 := Lib.hid (HOKI.out ⟨by omega, by omega⟩)
      clear HBADI HOKI
      have w1 : IntKind.i64.wrap ((na + nu : Nat) : Int) = ((na + nu : Nat) : Int) := IntWalk.i64_in _ (by omega)
      by_cases hv : m.lv i
      · have HST2 := Lib.hid (HSTI.out.trans (if_pos hv))
        have hv2 := HLVI.out.1 hv
        clear hv HLVI HSTI
        have hsp : (¬ ((na + nu : Nat) : Int) ≤ (i : Int)) ∨ (((na + nu : Nat) : Int) ≤ (i : Int) ∧ (ty == 41) = false) := by
          by_cases h : ((na + nu : Nat) : Int) ≤ (i : Int)
          · rcases hv2 with h2 | h2
            · omega
            · exact .inr ⟨h, by simpa using h2⟩
          · exact .inl h
        clear hv2
        rcases hsp with hA | ⟨hA, hB⟩
        all_goals
          by_cases hl1 : lg < 0
          · have HST3 := Lib.hid (HST2.out.trans (if_pos (.inl hl1)))
            go_wp2_with fail
            go_roundw
            case rel => exact ⟨i + 1, by omega, by go_num, by rw [HST3.out], HOK2.out, by first | trivial | rfl⟩
            case measure => (simp [intOf] <;> omega)
          · by_cases hl2 : tt < lg
            · have HST3 := Lib.hid (HST2.out.trans (if_pos (.inr hl2)))
              go_wp2_with fail
              go_roundw
              case rel => exact ⟨i + 1, by omega, by go_num, by rw [HST3.out], HOK2.out, by first | trivial | rfl⟩
              case measure => (simp [intOf] <;> omega)
            · have HST3 := Lib.hid (HST2.out.trans (if_neg (fun h => by rcases h with h | h; exact hl1 h; exact hl2 h)))
              go_wp2_with fail
              go_roundw
              case rel => exact ⟨i + 1, by omega, by go_num, by rw [HST3.out], HOK2.out, by first | trivial | rfl⟩
              case measure => (simp [intOf] <;> omega)
      · have HST2 := Lib.hid (HSTI.out.trans (if_neg hv))
        have hv2 : ¬ (i < na + nu ∨ ty ≠ 41) := fun h => hv (HLVI.out.2 h)
        clear hv HLVI HSTI
        have h41 : ty = 41 := by omega
        have h42 : (ty == 41) = true := by simp [h41]
        have h43 : ((na + nu : Nat) : Int) ≤ (i : Int) := by omega
        clear hv2 h41
        go_wp2_with fail
        go_roundw
        case rel => exact ⟨i + 1, by omega, by go_num, by rw [HST2.out], HOK2.out, by first | trivial | rfl⟩
        case measure => (simp [intOf] <;> omega)
    · obtain rfl : i = NN := by omega
      have HFF := Lib.hid (HFINE.out HOK.out)
      generalize lngF m i = lg at *
      by_cases hl : lg ≤ 0
      · have HZ1 := Lib.hid (HFF.out.1.trans (if_pos hl))
        have HZ2 := Lib.hid (HFF.out.2.trans (if_pos hl))
        have hl1 : lg < 1 := by omega
        go_wp2_with fail
        go_ret2
        exact ⟨by rw [HZ1.out, HZ2.out]; rfl, HF2.out⟩
      · have HZ1 := Lib.hid (HFF.out.1.trans (if_neg hl))
        have HZ2 := Lib.hid (HFF.out.2.trans (if_neg hl))
        have hl1 : ¬ lg < 1 := by omega
        go_wp2_with fail
        go_ret2
        exact ⟨by rw [HZ1.out, HZ2.out]; rfl, HF2.out⟩

end Go.Proofs.YtkdmkpdooiacaaaDoor
