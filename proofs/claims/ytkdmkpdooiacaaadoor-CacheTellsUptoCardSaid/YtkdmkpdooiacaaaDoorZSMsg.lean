/- pointsmansame.Records, Message: where all is one, the answer is yes. -/
import Derived.Deep.RegionHeld3
import Derived.Test.YtkdmkpdooiacaaaDoorZbase1
namespace Go.Proofs.YtkdmkpdooiacaaaDoor
open Go.RowKit

set_option maxHeartbeats 8000000 in
set_option maxRecDepth 100000 in
theorem records_eq (w : World) (B C : HB) (v u : Value) (n m : Nat) (R Q : Nat → Rs) (F G : Nat → Nat → Value) (h1 : Sec B w v n R F) (h2 : Sec C w u m Q G) (he : secEq n m R Q) :
    Calls Tryd.prog 34 #[v, u] w fun e w' => e = .returned (.bool true) ∧ Fr [] w w' := by
  obtain ⟨rfl, he⟩ := he
  obtain ⟨a, c, rfl⟩ := h1.rd.slice
  obtain ⟨b, d, rfl⟩ := h2.rd.slice
  have H1 := Lib.hid h1
  have H2 := Lib.hid h2
  have HE := Lib.hid he
  have hnb := h1.nb
  clear h1 h2 he
  go_enter Tryd.func34, Tryd.ntmps34
  go_wp2_with fail
  go_loopw [5] (fun vi wr => ∃ k : Nat, k ≤ n ∧ vi = .int .i64 k ∧ Fr [] w wr) (fun vi _ => n - (intOf vi).toNat)
  case atStart => exact ⟨0, by omega, rfl, Fr.refl _ _⟩
  case round =>
    obtain ⟨k, hk, rfl, hf⟩ := hrel
    have HF := Lib.hid hf
    clear hf
    by_cases hlt : k < n
    · have HF1 := Lib.hid (HF.out.drew)
      obtain ⟨b1, o1, c1, e1, _, _, _, hc1⟩ := (H1.out.rd.fr HF.out).shape (by omega) (by decide)
      obtain ⟨b2, o2, c2, e2, _, _, _, hc2⟩ := (H2.out.rd.fr HF.out).shape (by omega) (by decide)
      simp only [Value.slice.injEq, true_and] at e1 e2
      obtain ⟨rfl, rfl⟩ := e1
      obtain ⟨rfl, rfl⟩ := e2
      obtain ⟨na, nc, da, dc, f1, r1⟩ := H1.out.at_ k hlt
      obtain ⟨na', nc', da', dc', f2, r2⟩ := H2.out.at_ k hlt
      have x0 := hc1 k 0 hlt (by decide)
      have x1 := hc1 k 1 hlt (by decide)
      have x2 := hc1 k 2 hlt (by decide)
      have x3 := hc1 k 3 hlt (by decide)
      have x4 := hc1 k 4 hlt (by decide)
      have y0 := hc2 k 0 hlt (by decide)
      have y1 := hc2 k 1 hlt (by decide)
      have y2 := hc2 k 2 hlt (by decide)
      have y3 := hc2 k 3 hlt (by decide)
      have y4 := hc2 k 4 hlt (by decide)
      rw [f1 0 (by decide)] at x0
      rw [f1 1 (by decide)] at x1
      rw [f1 2 (by decide)] at x2
      rw [f1 3 (by decide)] at x3
      rw [f1 4 (by decide)] at x4
      rw [f2 0 (by decide)] at y0
      rw [f2 1 (by decide)] at y1
      rw [f2 2 (by decide)] at y2
      rw [f2 3 (by decide)] at y3
      rw [f2 4 (by decide)] at y4
      simp only [Rs.F, Nat.add_zero] at x0 x1 x2 x3 x4 y0 y1 y2 y3 y4
      have HRC := Lib.hid (fun (wx : World) (hx : Fr [] w wx) => record_any wx (R k) (Q k) na da na' da' nc dc nc' dc' (r1.rdn.fr hx (by simp)) (r1.rdd.fr hx (by simp)) (r2.rdn.fr hx (by simp)) (r2.rdd.fr hx (by simp)))
      rw [HE.out k hlt] at HRC
      clear hc1 hc2 f1 f2 r1 r2
      generalize R k = x at *
      generalize Q k = y at *
      have k0 : (0 : Int) ≤ (k : Int) := by omega
      have k9 : (k : Int) < (n : Int) := by omega
      go_upto_region 6 with fail
      go_region_with (go_at_call 58; (with_reducible refine (HRC.out _ HF1.out).mono ?_); rintro e wx ⟨rfl, hfx⟩)
      all_goals
        have HF2 := Lib.hid (HF1.out.trans hfx (by simp))
        clear hfx
        go_wp2
        go_roundw
        case rel => exact ⟨k + 1, by omega, by go_num, HF2.out⟩
        case measure => (simp [intOf] <;> omega)
    · obtain rfl : k = n := by omega
      go_wp2
      go_ret
      exact ⟨rfl, HF.out⟩

set_option maxHeartbeats 8000000 in
set_option maxRecDepth 100000 in
theorem message_eq (w : World) (B C : HB) (x y : Ms) (vq va vu vm uq ua uu um : Value) (hx : MsOk B w x vq va vu vm) (hy : MsOk C w y uq ua uu um) (he : msEq x y) :
    Calls Tryd.prog 14 #[msgV x.h vq va vu vm, msgV y.h uq ua uu um] w fun e w' => e = .returned (.bool true) ∧ Fr [] w w' := by
  obtain ⟨eh, ⟨eq, hq⟩, ea, eu, em⟩ := he
  obtain ⟨FQ, hxq⟩ := hx.hq
  obtain ⟨FA, hxa⟩ := hx.ha
  obtain ⟨FU, hxu⟩ := hx.hu
  obtain ⟨FM, hxm⟩ := hx.hm
  obtain ⟨GQ, hyq⟩ := hy.hq
  obtain ⟨GA, hya⟩ := hy.ha
  obtain ⟨GU, hyu⟩ := hy.hu
  obtain ⟨GM, hym⟩ := hy.hm
  obtain ⟨qa, qc, rfl⟩ := hxq.rd.slice
  obtain ⟨aa, ac, rfl⟩ := hxa.rd.slice
  obtain ⟨ua, uc, rfl⟩ := hxu.rd.slice
  obtain ⟨ma, mc, rfl⟩ := hxm.rd.slice
  obtain ⟨qa', qc', rfl⟩ := hyq.rd.slice
  obtain ⟨aa', ac', rfl⟩ := hya.rd.slice
  obtain ⟨ua', uc', rfl⟩ := hyu.rd.slice
  obtain ⟨ma', mc', rfl⟩ := hym.rd.slice
  have HQX := Lib.hid hxq
  have HQY := Lib.hid hyq
  have HEQ := Lib.hid hq
  have HRA := Lib.hid (fun (wx : World) (h : Fr [] w wx) => records_eq wx B C _ _ _ _ _ _ _ _ (hxa.frH (h.hot0 B)) (hya.frH (h.hot0 C)) ea)
  have HRU := Lib.hid (fun (wx : World) (h : Fr [] w wx) => records_eq wx B C _ _ _ _ _ _ _ _ (hxu.frH (h.hot0 B)) (hyu.frH (h.hot0 C)) eu)
  have HRM := Lib.hid (fun (wx : World) (h : Fr [] w wx) => records_eq wx B C _ _ _ _ _ _ _ _ (hxm.frH (h.hot0 B)) (hym.frH (h.hot0 C)) em)
  have hnb := hxq.nb
  clear hxq hxa hxu hxm hyq hya hyu hym hx hy hq ea eu em
  rw [← eh]
  clear eh
  unfold msgV
  generalize x.h = h at *
  obtain ⟨h0, h1, h2, h3, h4, h5, h6, h7, h8, h9, h10⟩ := h
  simp only
  generalize x.Q = QX at *
  generalize y.Q = QY at *
  rw [← eq] at HQY ⊢
  clear eq
  generalize x.qn = qn at *
  generalize x.an = xan at *
  generalize x.un = xun at *
  generalize x.mn = xmn at *
  generalize y.an = yan at *
  generalize y.un = yun at *
  generalize y.mn = ymn at *
  go_enter Tryd.func14, Tryd.ntmps14
  obtain ⟨hb0, hb1, _⟩ := two_new5 w (.cells #[.int .i64 h0, .bool h1, .int .i64 h2, .bool h3, .bool h4, .bool h5, .bool h6, .bool h7, .bool h8, .bool h9, .int .i64 h10, .slice qa qn qc, .slice aa xan ac, .slice ua xun uc, .slice ma xmn mc] 43) (.cells #[.int .i64 h0, .bool h1, .int .i64 h2, .bool h3, .bool h4, .bool h5, .bool h6, .bool h7, .bool h8, .bool h9, .int .i64 h10, .slice qa' qn qc', .slice aa' yan ac', .slice ua' yun uc', .slice ma' ymn mc'] 43)
  have HF2 := Lib.hid (show Fr [] w ((w.alloc (.cells #[.int .i64 h0, .bool h1, .int .i64 h2, .bool h3, .bool h4, .bool h5, .bool h6, .bool h7, .bool h8, .bool h9, .int .i64 h10, .slice qa qn qc, .slice aa xan ac, .slice ua xun uc, .slice ma xmn mc] 43)).alloc (.cells #[.int .i64 h0, .bool h1, .int .i64 h2, .bool h3, .bool h4, .bool h5, .bool h6, .bool h7, .bool h8, .bool h9, .int .i64 h10, .slice qa' qn qc', .slice aa' yan ac', .slice ua' yun uc', .slice ma' ymn mc'] 43)) from ((Fr.refl [] w).alloc _).alloc _)
  have HB0 := Lib.hid hb0
  have HB1 := Lib.hid hb1
  clear hb0 hb1
  go_upto_region 1 with fail
  generalize (w.alloc (.cells #[.int .i64 h0, .bool h1, .int .i64 h2, .bool h3, .bool h4, .bool h5, .bool h6, .bool h7, .bool h8, .bool h9, .int .i64 h10, .slice qa qn qc, .slice aa xan ac, .slice ua xun uc, .slice ma xmn mc] 43)).alloc (.cells #[.int .i64 h0, .bool h1, .int .i64 h2, .bool h3, .bool h4, .bool h5, .bool h6, .bool h7, .bool h8, .bool h9, .int .i64 h10, .slice qa' qn qc', .slice aa' yan ac', .slice ua' yun uc', .slice ma' ymn mc'] 43) = W at *
  obtain ⟨a0, a1, a2, a3, a4, a5, a6, a7, a8, a9, a10, a11, a12, a13, a14⟩ := msg_cells (h := ⟨h0, h1, h2, h3, h4, h5, h6, h7, h8, h9, h10⟩) HB0.out
  obtain ⟨b0, b1, b2, b3, b4, b5, b6, b7, b8, b9, b10, b11, b12, b13, b14⟩ := msg_cells (h := ⟨h0, h1, h2, h3, h4, h5, h6, h7, h8, h9, h10⟩) HB1.out
  simp only at a0 a1 a2 a3 a4 a5 a6 a7 a8 a9 a10 b0 b1 b2 b3 b4 b5 b6 b7 b8 b9 b10
  go_wp2_with fail
  clear a0 a1 a2 a3 a4 a5 a6 a7 a8 a9 a10 a11 a12 a13 a14 b0 b1 b2 b3 b4 b5 b6 b7 b8 b9 b10 b11 b12 b13 b14
  go_loopw [5] (fun vi wr => ∃ k : Nat, k ≤ qn ∧ vi = .int .i64 k ∧ Fr [] W wr) (fun vi _ => qn - (intOf vi).toNat)
  case atStart => exact ⟨0, by omega, rfl, Fr.refl _ _⟩
  case round =>
    obtain ⟨k, hk, rfl, hf⟩ := hrel
    have HF := Lib.hid hf
    clear hf
    have a11 := blk_cell (HF.out.blk HB0.out (by simp)) 11 (v := .slice qa qn qc) rfl
    have b11 := blk_cell (HF.out.blk HB1.out (by simp)) 11 (v := .slice qa' qn qc') rfl
    by_cases hlt : k < qn
    · have HWF := Lib.hid (HF2.out.trans HF.out (by simp))
      have HF1 := Lib.hid (HF.out.drew)
      have HW1 := Lib.hid (HWF.out.drew)
      obtain ⟨i1, o1, c1, e1, _, _, _, hc1⟩ := (HQX.out.rd.fr HWF.out).shape (by omega) (by decide)
      obtain ⟨i2, o2, c2, e2, _, _, _, hc2⟩ := (HQY.out.rd.fr HWF.out).shape (by omega) (by decide)
      simp only [Value.slice.injEq, true_and] at e1 e2
      obtain ⟨rfl, rfl⟩ := e1
      obtain ⟨rfl, rfl⟩ := e2
      obtain ⟨na, nc, f1, r1, _⟩ := HQX.out.at_ k hlt
      obtain ⟨na', nc', f2, r2, _⟩ := HQY.out.at_ k hlt
      have x0 := hc1 k 0 hlt (by decide)
      have x1 := hc1 k 1 hlt (by decide)
      have x2 := hc1 k 2 hlt (by decide)
      have y0 := hc2 k 0 hlt (by decide)
      have y1 := hc2 k 1 hlt (by decide)
      have y2 := hc2 k 2 hlt (by decide)
      rw [f1 0 (by decide)] at x0
      rw [f1 1 (by decide)] at x1
      rw [f1 2 (by decide)] at x2
      rw [f2 0 (by decide)] at y0
      rw [f2 1 (by decide)] at y1
      rw [f2 2 (by decide)] at y2
      simp only [Qs.F, Nat.add_zero] at x0 x1 x2 y0 y1 y2
      have n1 := (r1.le_cap : _)
      have n2 := (r2.le_cap : _)
      obtain ⟨t1, t2, t3⟩ := HEQ.out k hlt
      have HTX := Lib.hid (fun (wx : World) (hx : Fr [] w wx) => texts_any wx na na' (QX k).nl (QY k).nl nc nc' (QX k).nm (QY k).nm (r1.fr hx (by simp)) (r2.fr hx (by simp)) (by have := (HQX.out.wf k hlt).nlb; omega) (by have := (HQY.out.wf k hlt).nlb; omega))
      rw [t1] at HTX
      rw [← t2] at y1
      rw [← t3] at y2
      clear hc1 hc2 f1 f2 r1 r2 t1 t2 t3 n1 n2
      generalize QX k = p at *
      generalize QY k = q at *
      have k0 : (0 : Int) ≤ (k : Int) := by omega
      have k9 : (k : Int) < (qn : Int) := by omega
      have HX1 := Lib.hid x1
      have HX2 := Lib.hid x2
      have HY1 := Lib.hid y1
      have HY2 := Lib.hid y2
      have HA11 := Lib.hid a11
      have HB11 := Lib.hid b11
      go_upto_region 6 with fail
      go_region_with (go_at_call 33; (with_reducible refine (HTX.out _ HW1.out).mono ?_); rintro e wx ⟨rfl, qx, rfl⟩)
      all_goals
        clear x0 x1 x2 y0 y1 y2 a11 b11
        go_upto_region 7 with fail
        have hg3 : Fr [] wr (wr.drewN (1 + qx)) := (Fr.refl [] wr).drewN _
        have HF3 := Lib.hid (HF.out.trans hg3 (by simp))
        have x1 := hg3.cell HX1.out (by simp)
        have x2 := hg3.cell HX2.out (by simp)
        have y1 := hg3.cell HY1.out (by simp)
        have y2 := hg3.cell HY2.out (by simp)
        have a11 := hg3.cell HA11.out (by simp)
        have b11 := hg3.cell HB11.out (by simp)
        clear hg3
        generalize wr.drewN (1 + qx) = w7 at *
        go_quiet (fail)
        go_wp2
        go_roundw
        case rel => exact ⟨k + 1, by omega, by go_num, HF3.out.drewN _⟩
        case measure => (simp [intOf] <;> omega)
    · obtain rfl : k = qn := by omega
      clear HQX HQY HEQ
      have a12 := blk_cell (HF.out.blk HB0.out (by simp)) 12 (v := .slice aa xan ac) rfl
      have b12 := blk_cell (HF.out.blk HB1.out (by simp)) 12 (v := .slice aa' yan ac') rfl
      go_wp2_with fail
      refine (HRA.out _ (HF2.out.trans HF.out (by simp))).mono ?_
      rintro e w3 ⟨rfl, hf3⟩
      have HF3 := Lib.hid (HF.out.trans hf3 (by simp))
      clear hf3 a12 b12 a11 b11
      have a13 := blk_cell (HF3.out.blk HB0.out (by simp)) 13 (v := .slice ua xun uc) rfl
      have b13 := blk_cell (HF3.out.blk HB1.out (by simp)) 13 (v := .slice ua' yun uc') rfl
      go_wp2_with fail
      refine (HRU.out _ (HF2.out.trans HF3.out (by simp))).mono ?_
      rintro e w4 ⟨rfl, hf4⟩
      have HF4 := Lib.hid (HF3.out.trans hf4 (by simp))
      clear hf4 a13 b13
      have a14 := blk_cell (HF4.out.blk HB0.out (by simp)) 14 (v := .slice ma xmn mc) rfl
      have b14 := blk_cell (HF4.out.blk HB1.out (by simp)) 14 (v := .slice ma' ymn mc') rfl
      go_wp2_with fail
      refine (HRM.out _ (HF2.out.trans HF4.out (by simp))).mono ?_
      rintro e w5 ⟨rfl, hf5⟩
      have HF5 := Lib.hid (HF4.out.trans hf5 (by simp))
      clear hf5 a14 b14
      go_wp2
      go_ret
      exact ⟨rfl, HF2.out.trans HF5.out (by simp)⟩

end Go.Proofs.YtkdmkpdooiacaaaDoor
