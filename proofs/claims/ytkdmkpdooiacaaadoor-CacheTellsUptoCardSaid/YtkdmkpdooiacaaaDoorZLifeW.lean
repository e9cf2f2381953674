/- cache.life: the walk. -/
import Derived.Test.YtkdmkpdooiacaaaDoorZbase1
namespace Go.Proofs.YtkdmkpdooiacaaaDoor
open Go.RowKit

set_option maxHeartbeats 4000000 in
set_option maxRecDepth 100000 in
theorem life_any (w : World) (B : HB) (m : Ms) (vq va vu vm : Value) (hm : MsOk B w m vq va vu vm) (hsz : (m.an + m.un + m.mn + m.mn) * 72 ≤ 140737488355328) :
    Calls Tryd.prog 27 #[msgV m.h vq va vu vm] w fun e w' => e = .returned (.tuple #[.int .i64 (lifeV m), erVn (lifeZ m)]) ∧ Fr [] w w' := by
  obtain ⟨_, hm1⟩ := hm.hq
  obtain ⟨FA, hA⟩ := hm.ha
  obtain ⟨FU, hU⟩ := hm.hu
  obtain ⟨FM, hM⟩ := hm.hm
  obtain ⟨mb, mc, rfl⟩ := hm1.rd.slice
  obtain ⟨ab, ac, rfl⟩ := hA.rd.slice
  obtain ⟨ub, uc, rfl⟩ := hU.rd.slice
  obtain ⟨nb, nc, rfl⟩ := hM.rd.slice
  have HA := Lib.hid hA
  have HU := Lib.hid hU
  have HM := Lib.hid hM
  have hnm := nopN_le m.M m.mn
  clear hm hm1 hA hU hM
  have HZ := Lib.hid (show lifeZ m = if tbad m.T2 (m.N1 + m.mn) = true then 6 else if lmn m.T1 m.N1 ≤ 0 then 9 else 0 from rfl)
  have HV := Lib.hid (show lifeV m = if lifeZ m = 0 then lmn m.T1 m.N1 else 0 from rfl)
  have HT1 := Lib.hid (show m.T1 = lifT (m.an + m.un) m.T0 m.M m.mn from rfl)
  have HN1 := Lib.hid (show m.N1 = m.an + m.un + nopN m.M m.mn from rfl)
  have HT2 := Lib.hid (show m.T2 = catT m.N1 m.T1 (fun i => (m.M i).tt) from rfl)
  have HT0 := Lib.hid (show m.T0 = catT m.an (fun i => (m.A i).tt) (fun i => (m.U i).tt) from rfl)
  have HNL := Lib.hid (show m.N1 ≤ m.an + m.un + m.mn by rw [HN1.out]; omega)
  generalize lifeZ m = Z at *
  generalize lifeV m = V at *
  generalize m.T1 = T1 at *
  generalize m.T2 = T2 at *
  generalize m.T0 = T0 at *
  generalize m.N1 = N1 at *
  obtain ⟨⟨h0, h1, h2, h3, h4, h5, h6, h7, h8, h9, h10⟩, nq, Q, na, A, nu, U, nm, M⟩ := m
  simp only [msgV] at *
  go_enter Tryd.func27, Tryd.ntmps27
  go_wp2_with fail
  have HF2 := Lib.hid (show Fr [] w ((w.alloc (.cells #[.int .i64 h0, .bool h1, .int .i64 h2, .bool h3, .bool h4, .bool h5, .bool h6, .bool h7, .bool h8, .bool h9, .int .i64 h10, .slice mb nq mc, .slice ab na ac, .slice ub nu uc, .slice nb nm nc] 43)).alloc (.cells #[.slice ab na ac, .slice ub nu uc] 41)) from ((Fr.refl [] w).alloc _).alloc _)
  have HB0 := Lib.hid (((Fr.refl [] _).alloc (.cells #[.slice ab na ac, .slice ub nu uc] 41)).blk (heap_alloc_new w (.cells #[.int .i64 h0, .bool h1, .int .i64 h2, .bool h3, .bool h4, .bool h5, .bool h6, .bool h7, .bool h8, .bool h9, .int .i64 h10, .slice mb nq mc, .slice ab na ac, .slice ub nu uc, .slice nb nm nc] 43)) (by simp))
  have HB1 := Lib.hid (show ((w.alloc (.cells #[.int .i64 h0, .bool h1, .int .i64 h2, .bool h3, .bool h4, .bool h5, .bool h6, .bool h7, .bool h8, .bool h9, .int .i64 h10, .slice mb nq mc, .slice ab na ac, .slice ub nu uc, .slice nb nm nc] 43)).alloc (.cells #[.slice ab na ac, .slice ub nu uc] 41)).heap[w.heap.size + 1]? = some (.cells #[.slice ab na ac, .slice ub nu uc] 41 (0, 0)) by
    have e : (w.alloc (.cells #[.int .i64 h0, .bool h1, .int .i64 h2, .bool h3, .bool h4, .bool h5, .bool h6, .bool h7, .bool h8, .bool h9, .int .i64 h10, .slice mb nq mc, .slice ab na ac, .slice ub nu uc, .slice nb nm nc] 43)).heap.size = w.heap.size + 1 := by simp
    rw [← e]
    exact heap_alloc_new _ _)
  generalize (w.alloc (.cells #[.int .i64 h0, .bool h1, .int .i64 h2, .bool h3, .bool h4, .bool h5, .bool h6, .bool h7, .bool h8, .bool h9, .int .i64 h10, .slice mb nq mc, .slice ab na ac, .slice ub nu uc, .slice nb nm nc] 43)).alloc (.cells #[.slice ab na ac, .slice ub nu uc] 41) = W2 at *
  refine (concat_any W2 _ _ ab ub na nu ac uc FA FU HB1.out (HA.out.rd.fr HF2.out) (HU.out.rd.fr HF2.out) HA.out.one HU.out.one (by omega)).mono ?_
  rintro e w3 ⟨v3, rfl, ho3, hf3⟩
  have HO3 := Lib.hid (ho3.mono (show w.heap.size + 1 ≤ W2.heap.size from lt_of_blk HB1.out |> Nat.le_of_lt))
  have HF3 := Lib.hid (HF2.out.trans hf3 (by simp))
  have HC3 := Lib.hid (hf3.blk HB0.out (by simp))
  have y14 : w3.cell? ⟨w.heap.size, 14, none⟩ = some (.slice nb nm nc) := blk_cell HC3.out 14 rfl
  clear ho3 hf3 HB0 HB1 HF2
  go_wp2_with fail
  go_loopw [4, 21] (fun vo vi wr => ∃ (k : Nat) (G : Nat → Nat → Value), k ≤ nm ∧ vi = .int .i64 k ∧ OwnC wr (w.heap.size + 1) 60 vo 5 (na + nu + nopN M k) G ∧ (∀ i, i < na + nu + nopN M k → RecC (G i) (lifT (na + nu) T0 M k i)) ∧ Fr [] w wr ∧
    wr.cell? ⟨w.heap.size, 14, none⟩ = some (.slice nb nm nc)) (fun _ vi _ => nm - (intOf vi).toNat)
  case atStart => exact ⟨0, _, by omega, rfl, HO3.out, fun i hi => by
    show RecC _ (T0 i)
    rw [HT0.out]
    exact recC_app (fun i hi => HA.out.recC i hi) (fun i hi => HU.out.recC i hi) i hi, HF3.out, y14⟩
  case round =>
    clear HO3 HF3 HC3 y14
    obtain ⟨k, G, hk, rfl, ho, hrc, hf, y14⟩ := hrel
    have HO := Lib.hid ho
    have HRC := Lib.hid hrc
    have HF := Lib.hid hf
    clear ho hrc hf
    have hnk := nopN_le M k
    by_cases hlt : k < nm
    · obtain ⟨b1, o1, c1, he1, hn1, hm1, _, hc1⟩ := HM.out.rd.shape (by omega) (by decide)
      simp only [Value.slice.injEq, true_and] at he1
      obtain ⟨rfl, rfl⟩ := he1
      clear hn1 hm1
      obtain ⟨rna, rnc, rda, rdc, hF, _⟩ := HM.out.at_ k hlt
      have htt := (HM.out.wf k hlt).tt0
      have k1 := HF.out.cell (hc1 k 0 hlt (by decide)) (by simp)
      have k2 := HF.out.cell (hc1 k 1 hlt (by decide)) (by simp)
      have k3 := HF.out.cell (hc1 k 2 hlt (by decide)) (by simp)
      have k4 := HF.out.cell (hc1 k 3 hlt (by decide)) (by simp)
      have k5 := HF.out.cell (hc1 k 4 hlt (by decide)) (by simp)
      rw [hF 0 (by decide)] at k1
      rw [hF 1 (by decide)] at k2
      rw [hF 2 (by decide)] at k3
      rw [hF 3 (by decide)] at k4
      rw [hF 4 (by decide)] at k5
      simp only [Rs.F, Nat.add_zero] at k1 k2 k3 k4 k5
      clear hc1 hF
      have k0 : (0 : Int) ≤ (k : Int) := by omega
      have k9 : (k : Int) < (nm : Int) := by omega
      have HSZ := Lib.hid (show w.heap.size ≤ wr.heap.size from HF.out.size)
      have HB8 := Lib.hid (show w.heap.size + 1 ≤ wr.heap.size from World.block_lt_of_cell? wr _ y14)
      obtain ⟨r, hr⟩ : ∃ r, M k = r := ⟨_, rfl⟩
      rw [hr] at k1 k2 k3 k4 k5 htt
      have HNN := Lib.hid (show nopN M (k + 1) = if r.ty = 41 then nopN M k else nopN M k + 1 by rw [← hr]; rfl)
      have HTT := Lib.hid (show lifT (na + nu) T0 M (k + 1) = if r.ty = 41 then lifT (na + nu) T0 M k else fun j => if j = na + nu + nopN M k then r.tt else lifT (na + nu) T0 M k j by rw [← hr]; rfl)
      clear hr
      by_cases h41 : r.ty = 41
      · have hb : (r.ty != 41) = false := by simp [h41]
        have HN2 := Lib.hid (HNN.out.trans (if_pos h41))
        have HT3 := Lib.hid (HTT.out.trans (if_pos h41))
        clear h41
        go_wp2_with fail
        go_roundw
        case rel => exact ⟨k + 1, G, by omega, by go_num, by rw [HN2.out]; exact HO.out.kept ((Fr.refl [] _).alloc _) (fun _ _ => by simp), by rw [HN2.out, HT3.out]; exact HRC.out, HF.out.alloc _, ((Fr.refl [] _).alloc _).cell y14 (by simp)⟩
        case measure => simp [intOf]; omega
      · have hb : (r.ty != 41) = true := by simp [h41]
        have HN2 := Lib.hid (HNN.out.trans (if_neg h41))
        have HT3 := Lib.hid (HTT.out.trans (if_neg h41))
        clear h41
        go_wp2_with (at_builtin; refine wpList_appC rfl (.tmp 28) (.tmp 30) 41 rfl 60 infoRec Tryd.underlying41 rfl (by decide) (f5_one rna rda r.nl rnc r.dl rdc r.ty r.cl r.tt) (HO.out.kept (((Fr.refl [] _).alloc _).alloc _) (fun _ _ => by simp)) rfl (rdc_five _ _ _ _ _ _ _ (by simp) trivial) rfl (by unfold maxLen; omega) (by omega) (Nat.le_trans HB8.out (by simp; omega)) ?_; intro v7 w7 ho7 hf7 _)
        go_roundw
        case rel =>
          have hF7 : Fr [] w w7 := ((HF.out.alloc _).alloc _).trans hf7 (fun x hx => .inr (Nat.le_of_succ_le (HO.out.ge x hx)))
          refine ⟨k + 1, _, by omega, by go_num, by rw [HN2.out, ← Nat.add_assoc]; exact ho7, fun i hi => ?_, hF7, ?_⟩
          · rw [HN2.out] at hi
            rw [HT3.out]
            unfold appC
            by_cases hik : i < na + nu + nopN M k
            · rw [if_pos hik]
              show RecC _ (if i = na + nu + nopN M k then r.tt else _)
              rw [if_neg (by omega)]
              exact HRC.out i hik
            · rw [if_neg hik]
              show RecC _ (if i = na + nu + nopN M k then r.tt else _)
              rw [if_pos (by omega)]
              refine ⟨r, rna, rda, rnc, rdc, fun c hc => ?_, rfl, htt.1, htt.2⟩
              match c, hc with
              | 0, _ => rfl
              | 1, _ => rfl
              | 2, _ => rfl
              | 3, _ => rfl
              | 4, _ => rfl
          · exact hf7.cell ((((Fr.refl [] _).alloc _).alloc _).cell y14 (by simp)) (fun hm => by have h9 : w.heap.size + 1 ≤ w.heap.size := HO.out.ge _ hm; omega)
        case measure => simp [intOf]; omega
    · obtain rfl : k = nm := by omega
      obtain ⟨ra, rc, rfl⟩ := HO.out.rd.slice
      rw [← HN1.out, ← HT1.out] at HRC
      rw [← HN1.out] at HO
      have HFW := Lib.hid (show Fr [] wr (wr.alloc (.cells #[.slice ra N1 rc, .slice nb k nc] 41)) from (Fr.refl [] wr).alloc _)
      have HBW := Lib.hid (heap_alloc_new wr (.cells #[.slice ra N1 rc, .slice nb k nc] 41))
      rw [← HN1.out]
      go_wp2_with fail
      refine (concat_any _ wr.heap.size _ ra nb N1 k rc nc G FM HBW.out (HO.out.rd.fr HFW.out) (HM.out.rd.fr (HF.out.trans HFW.out (by simp))) (fun i c hi hc => (HRC.out i hi).one c hc) HM.out.one (by have := HNL.out; omega)).mono ?_
      rintro e w5 ⟨v5, rfl, ho5, hf5⟩
      have HF5 := Lib.hid ((HF.out.trans HFW.out (by simp)).trans hf5 (by simp))
      have HR5 := Lib.hid ho5.rd
      have HRS := Lib.hid (HO.out.rd.fr (HFW.out.trans hf5 (by simp)))
      have HRT := Lib.hid (show ∀ i, i < N1 + k → RecC (appC N1 G FM i) (T2 i) from fun i hi => by
        rw [HT2.out]
        exact recC_app HRC.out (fun i hi => HM.out.recC i hi) i hi)
      obtain ⟨a5, c5, rfl⟩ := ho5.rd.slice
      clear ho5 hf5 y14
      go_wp2_with fail
      go_loopw [39] (fun vi wx => ∃ j : Nat, j ≤ N1 + k ∧ vi = .int .i64 j ∧ tbad T2 j = false ∧ Fr [] w5 wx) (fun vi _ => N1 + k - (intOf vi).toNat)
      case atStart => exact ⟨0, by omega, rfl, rfl, Fr.refl _ _⟩
      case round =>
        obtain ⟨j, hj, rfl, hbd, hfx⟩ := hrel
        have HBD := Lib.hid hbd
        have HFX := Lib.hid hfx
        clear hbd hfx
        by_cases hjl : j < N1 + k
        · obtain ⟨b1, o1, cc1, he1, hn1, hm1, _, hc1⟩ := HR5.out.shape (by omega) (by decide)
          simp only [Value.slice.injEq, true_and] at he1
          obtain ⟨rfl, rfl⟩ := he1
          obtain ⟨r, rna, rda, rnc, rdc, hF, hrt, ht0, ht1⟩ := HRT.out j hjl
          have k1 := HFX.out.cell (hc1 j 0 hjl (by decide)) (by simp)
          have k2 := HFX.out.cell (hc1 j 1 hjl (by decide)) (by simp)
          have k3 := HFX.out.cell (hc1 j 2 hjl (by decide)) (by simp)
          have k4 := HFX.out.cell (hc1 j 3 hjl (by decide)) (by simp)
          have k5 := HFX.out.cell (hc1 j 4 hjl (by decide)) (by simp)
          rw [hF 0 (by decide)] at k1
          rw [hF 1 (by decide)] at k2
          rw [hF 2 (by decide)] at k3
          rw [hF 3 (by decide)] at k4
          rw [hF 4 (by decide)] at k5
          simp only [Rs.F, Nat.add_zero] at k1 k2 k3 k4 k5
          have HHIT := Lib.hid (fun h => tbad_hit (T := T2) hjl h)
          have HST := Lib.hid (show tbad T2 (j + 1) = (tbad T2 j || (decide (T2 j < 0) || decide (4294967295 < T2 j))) from rfl)
          have hnb1 : N1 + k ≤ 140737488355328 := by have := HNL.out; omega
          clear hc1 hF hn1 hm1
          rw [hrt] at k4
          clear hrt
          generalize T2 j = tj at *
          have k0 : (0 : Int) ≤ (j : Int) := by omega
          have k9 : (j : Int) < ((N1 + k : Nat) : Int) := by omega
          by_cases g1 : tj < 0
          · have HE := Lib.hid (HHIT.out (.inl g1))
            go_wp2_with fail
            go_ret2
            exact ⟨by rw [HV.out, HZ.out.trans (if_pos HE.out)]; rfl, (HF5.out.trans HFX.out (by simp)).alloc _⟩
          · by_cases g2 : 4294967295 < tj
            · have HE := Lib.hid (HHIT.out (.inr g2))
              have g3 : 0 < tj / 4294967296 := by omega
              go_wp2_with fail
              go_ret2
              exact ⟨by rw [HV.out, HZ.out.trans (if_pos HE.out)]; rfl, (HF5.out.trans HFX.out (by simp)).alloc _⟩
            · have g3 : tj / 4294967296 = 0 := by omega
              have HE := Lib.hid (show tbad T2 (j + 1) = false by rw [HST.out, HBD.out, decide_eq_false g1, decide_eq_false g2]; rfl)
              go_wp2_with fail
              go_roundw
              case rel => exact ⟨j + 1, by omega, by go_num, HE.out, HFX.out.alloc _⟩
              case measure => simp [intOf]; omega
        · obtain rfl : j = N1 + k := by omega
          have HZ2 := Lib.hid (show Z = if lmn T1 N1 ≤ 0 then 9 else 0 by rw [HZ.out, if_neg (by rw [HBD.out]; decide)])
          go_wp2_with fail
          go_loopw [7, 56] (fun vl vi wy => ∃ i : Nat, i ≤ N1 ∧ vi = .int .i64 i ∧ vl = .int .i64 (lmn T1 i) ∧ Fr [] w5 wy) (fun _ vi _ => N1 - (intOf vi).toNat)
          case atStart => exact ⟨0, by omega, rfl, rfl, HFX.out⟩
          case round =>
            clear HFX
            obtain ⟨i, hi, rfl, rfl, hfx⟩ := hrel
            have HFX := Lib.hid hfx
            clear hfx
            by_cases hil : i < N1
            · obtain ⟨b1, o1, cc1, he1, hn1, hm1, _, hc1⟩ := HRS.out.shape (by omega) (by decide)
              simp only [Value.slice.injEq, true_and] at he1
              obtain ⟨rfl, rfl⟩ := he1
              obtain ⟨r, rna, rda, rnc, rdc, hF, hrt, ht0, ht1⟩ := HRC.out i hil
              have k1 := HFX.out.cell (hc1 i 0 hil (by decide)) (by simp)
              have k2 := HFX.out.cell (hc1 i 1 hil (by decide)) (by simp)
              have k3 := HFX.out.cell (hc1 i 2 hil (by decide)) (by simp)
              have k4 := HFX.out.cell (hc1 i 3 hil (by decide)) (by simp)
              have k5 := HFX.out.cell (hc1 i 4 hil (by decide)) (by simp)
              rw [hF 0 (by decide)] at k1
              rw [hF 1 (by decide)] at k2
              rw [hF 2 (by decide)] at k3
              rw [hF 3 (by decide)] at k4
              rw [hF 4 (by decide)] at k5
              simp only [Rs.F, Nat.add_zero] at k1 k2 k3 k4 k5
              have HST := Lib.hid (show lmn T1 (i + 1) = if lmn T1 i < 0 ∨ T1 i < lmn T1 i then T1 i else lmn T1 i from rfl)
              have hnb1 : N1 ≤ 140737488355328 := by have := HNL.out; omega
              clear hc1 hF hn1 hm1
              rw [hrt] at k4
              clear hrt
              generalize T1 i = tj at *
              generalize lmn T1 i = lj at *
              have k0 : (0 : Int) ≤ (i : Int) := by omega
              have k9 : (i : Int) < (N1 : Int) := by omega
              by_cases g1 : lj < 0
              · have HE := Lib.hid (HST.out.trans (if_pos (.inl g1)))
                go_wp2_with fail
                go_roundw
                case rel => exact ⟨i + 1, by omega, by go_num, by rw [HE.out], HFX.out.alloc _⟩
                case measure => simp [intOf]; omega
              · by_cases g2 : tj < lj
                · have HE := Lib.hid (HST.out.trans (if_pos (.inr g2)))
                  go_wp2_with fail
                  go_roundw
                  case rel => exact ⟨i + 1, by omega, by go_num, by rw [HE.out], HFX.out.alloc _⟩
                  case measure => simp [intOf]; omega
                · have HE := Lib.hid (HST.out.trans (if_neg (by omega)))
                  go_wp2_with fail
                  go_roundw
                  case rel => exact ⟨i + 1, by omega, by go_num, by rw [HE.out], HFX.out.alloc _⟩
                  case measure => simp [intOf]; omega
            · obtain rfl : i = N1 := by omega
              generalize hL : lmn T1 i = L at *
              by_cases g1 : L ≤ 0
              · have HE := Lib.hid (HZ2.out.trans (if_pos g1))
                go_wp2_with fail
                go_ret2
                exact ⟨by rw [HV.out, HE.out]; rfl, HF5.out.trans HFX.out (by simp)⟩
              · have HE := Lib.hid (HZ2.out.trans (if_neg g1))
                go_wp2_with fail
                go_ret2
                exact ⟨by rw [HV.out, HE.out]; rfl, HF5.out.trans HFX.out (by simp)⟩

end Go.Proofs.YtkdmkpdooiacaaaDoor
