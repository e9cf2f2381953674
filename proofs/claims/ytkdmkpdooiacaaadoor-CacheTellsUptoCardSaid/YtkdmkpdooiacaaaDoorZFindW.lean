/- edns.Find: what it does, whatever the records; its walk. -/
import Derived.Test.YtkdmkpdooiacaaaDoorZbase3
import Derived.Test.YtkdmkpdooiacaaaDoorZbase1
namespace Go.Proofs.YtkdmkpdooiacaaaDoor
open Go.RowKit

/-- is a record no OPT record that can be read? -/
def recBad (r : Rs) : Prop := 0 < r.nl ∨ r.cl < 0 ∨ 65535 < r.cl ∨ r.tt < 0 ∨ 4294967295 < r.tt
instance (r : Rs) : Decidable (recBad r) := by unfold recBad; infer_instance

/-- what is wrong with what a message tells of itself -/
def optZ (m : Ms) : Int :=
  if m.mn ≤ optIx m.M m.mn then 0
  else if optIx (fun j => m.M (optIx m.M m.mn + 1 + j)) (m.mn - (optIx m.M m.mn + 1)) < m.mn - (optIx m.M m.mn + 1) then 10
  else if recBad (m.M (optIx m.M m.mn)) then 1 else optsZ (m.M (optIx m.M m.mn)).dt (m.M (optIx m.M m.mn)).dl

/-- its Do bit -/
def optDo (m : Ms) : Bool := decide (optIx m.M m.mn < m.mn) && (decide (optZ m = 0) && decide ((m.M (optIx m.M m.mn)).tt / 32768 % 2 = 1))

theorem Sec.from_ {B : HB} {w : World} {a : Option Addr} {n c : Nat} {R : Nat → Rs} {F : Nat → Nat → Value} (h : Sec B w (.slice a n c) n R F) (k : Nat) (hk : k ≤ n) :
    Sec B w (.slice (if c = k then a else a.map (fun x => x.add (k * 5))) (n - k) (c - k)) (n - k) (fun j => R (k + j)) (fun j => F (k + j)) := by
  have hcold : Cold B w (.slice (if c = k then a else a.map (fun x => x.add (k * 5))) (n - k) (c - k)) := fun b o m c' e hm => by
    simp only [Value.slice.injEq] at e
    obtain ⟨e1, rfl, rfl⟩ := e
    by_cases hck : c = k
    · rw [if_pos hck] at e1
      subst e1
      exact h.cd b o n c rfl (by omega)
    · rw [if_neg hck] at e1
      obtain ⟨b', o', cap, e3, _, _, _, _⟩ := h.rd.shape (by omega) (by decide)
      simp only [Value.slice.injEq, true_and] at e3
      obtain ⟨rfl, rfl⟩ := e3
      simp only [Option.map_some, addr_lit_add, Option.some.injEq, Addr.mk.injEq] at e1
      obtain ⟨rfl, _⟩ := e1
      exact h.cd b' o' n c rfl (by omega)
  refine ⟨?_, hcold, fun i hi => h.at_ (k + i) (by omega), fun i hi => h.wf (k + i) (by omega), by have := h.nb; omega⟩
  have h9 := h.rd
  rcases h9 with ⟨h9, h8⟩ | ⟨a9, c9, h9, h8, h7, h6⟩
  · simp only [Value.slice.injEq] at h9
    obtain ⟨rfl, _, rfl⟩ := h9
    obtain rfl : k = 0 := by omega
    rw [if_pos rfl, h8]
    exact .inl ⟨rfl, rfl⟩
  · simp only [Value.slice.injEq, true_and] at h9
    obtain ⟨rfl, rfl⟩ := h9
    by_cases hcE : c = k
    · rw [if_pos hcE]
      exact .inr ⟨a9, c - k, by rw [show n - k = 0 by omega], by omega, by omega, fun j hj => by omega⟩
    · rw [if_neg hcE]
      have h10 := h.rd.part (by decide : 0 < 5) k n hk (Nat.le_refl _)
      exact h10

set_option maxHeartbeats 4000000 in
set_option maxRecDepth 100000 in
theorem find_some (w : World) (B : HB) (m : Ms) (vq va vu vm : Value) (hm : MsOk B w m vq va vu vm) (hi : optIx m.M m.mn < m.mn) (hsm : (m.M (optIx m.M m.mn)).dl ≤ 1099511627776) : FindSays m vq va vu vm (optDo m) (optZ m) w := fun wx hx => by
  obtain ⟨_, hm1⟩ := hm.hq
  obtain ⟨_, hm2⟩ := hm.ha
  obtain ⟨_, hm3⟩ := hm.hu
  obtain ⟨FM, hM⟩ := hm.hm
  obtain ⟨mb, mc, rfl⟩ := hm1.rd.slice
  obtain ⟨ab, ac, rfl⟩ := hm2.rd.slice
  obtain ⟨ub, uc, rfl⟩ := hm3.rd.slice
  obtain ⟨nb, nc, rfl⟩ := hM.rd.slice
  have HI := Lib.hid (show optI m.M m.mn = (optIx m.M m.mn : Int) by unfold optI; rw [if_pos hi])
  have HC := Lib.hid (fun (wz : World) (h : Fr [] w wz) => idxRec_any wz B nb m.mn nc m.M FM (hM.frH (h.hot0 B)))
  rw [HI.out] at HC
  have HX := Lib.hid hx
  have HZ := Lib.hid (show optZ m = if optIx (fun j => m.M (optIx m.M m.mn + 1 + j)) (m.mn - (optIx m.M m.mn + 1)) < m.mn - (optIx m.M m.mn + 1) then 10 else if recBad (m.M (optIx m.M m.mn)) then 1 else optsZ (m.M (optIx m.M m.mn)).dt (m.M (optIx m.M m.mn)).dl from (show optZ m = if m.mn ≤ optIx m.M m.mn then 0 else _ from rfl).trans (if_neg (by omega)))
  have HD := Lib.hid (show optDo m = (decide (optZ m = 0) && decide ((m.M (optIx m.M m.mn)).tt / 32768 % 2 = 1)) by unfold optDo; rw [decide_eq_true hi, Bool.true_and])
  have HSF := Lib.hid (hM.from_ (optIx m.M m.mn + 1) (by omega))
  have HM := Lib.hid hM
  clear hm hm1 hm2 hm3 hM HI hx
  have HHH := Lib.hid (show m.h = m.h from rfl)
  generalize optZ m = Z at *
  generalize optDo m = D at *
  generalize m.h = h at *
  generalize m.qn = nq at *
  generalize m.an = na at *
  generalize m.un = nu at *
  generalize m.M = MM at *
  generalize m.mn = nm at *
  generalize optIx MM nm = i at *
  obtain ⟨h0, h1, h2, h3, h4, h5, h6, h7, h8, h9, h10⟩ := h
  have l0 : (0 : Int) ≤ (i : Int) := by omega
  have l1 : (i : Int) < (nm : Int) := by omega
  have l2 : (i : Int) + 1 ≤ (nm : Int) := by omega
  have hnc : nm ≤ nc := by
    rcases HM.out.rd with ⟨h9, h8⟩ | ⟨a9, c9, h9, h8, h7, h6⟩
    · omega
    · simp only [Value.slice.injEq, true_and] at h9
      omega
  have hnm := HM.out.nb
  have HHC := Lib.hid (fun (wz : World) (h : Fr [] w wz) => hasRec_any wz B _ _ _ _ _ (HSF.out.frH (h.hot0 B)))
  simp only [msgV]
  go_enter Tryd.func22, Tryd.ntmps22
  go_wp2_with fail
  obtain ⟨hb0, hb1⟩ := two_new' wx (.cells #[.int .i64 h0, .bool h1, .int .i64 h2, .bool h3, .bool h4, .bool h5, .bool h6, .bool h7, .bool h8, .bool h9, .int .i64 h10, .slice mb nq mc, .slice ab na ac, .slice ub nu uc, .slice nb nm nc] 43) (.cells #[.int .i64 0, .int .i64 0, .int .i64 0, .bool false, .int .i64 0, .slice none 0 0] 68)
  have HB1 := Lib.hid hb1
  have HB0 := Lib.hid hb0
  have HF2 := Lib.hid (show Fr [] wx ((wx.alloc (.cells #[.int .i64 h0, .bool h1, .int .i64 h2, .bool h3, .bool h4, .bool h5, .bool h6, .bool h7, .bool h8, .bool h9, .int .i64 h10, .slice mb nq mc, .slice ab na ac, .slice ub nu uc, .slice nb nm nc] 43)).alloc (.cells #[.int .i64 0, .int .i64 0, .int .i64 0, .bool false, .int .i64 0, .slice none 0 0] 68)) from ((Fr.refl [] wx).alloc _).alloc _)
  clear hb0 hb1
  generalize (wx.alloc (.cells #[.int .i64 h0, .bool h1, .int .i64 h2, .bool h3, .bool h4, .bool h5, .bool h6, .bool h7, .bool h8, .bool h9, .int .i64 h10, .slice mb nq mc, .slice ab na ac, .slice ub nu uc, .slice nb nm nc] 43)).alloc (.cells #[.int .i64 0, .int .i64 0, .int .i64 0, .bool false, .int .i64 0, .slice none 0 0] 68) = W2 at *
  refine (HC.out W2 (HX.out.trans HF2.out (by simp))).mono ?_
  rintro e w3 ⟨rfl, hf3⟩
  have HB3 := Lib.hid (hf3.blk HB1.out (by simp))
  have HBM := Lib.hid (hf3.blk HB0.out (by simp))
  have HF3 := Lib.hid (HF2.out.trans hf3 (by simp))
  have HFW := Lib.hid (HX.out.trans HF3.out (by simp))
  have m14 := blk_cell HBM.out 14 rfl
  clear hf3 HC HF2 HB0 HB1
  generalize hTT : decide (optIx (fun j => MM (i + 1 + j)) (nm - (i + 1)) < nm - (i + 1)) = tt at *
  have HTT := Lib.hid hTT
  clear hTT
  go_upto_region 4 with fail
  go_cut [20] (fun v wy => v = .bool tt ∧ Fr [] w3 wy)
  case first =>
    by_cases hcap : nc = i + 1
    · have hsub : nc - (i + 1) = 0 := by omega
      rw [if_pos hcap, hsub] at HHC
      clear hsub
      have hsn : nm - (i + 1) = 0 := by omega
      rw [hsn] at HHC
      clear hsn
      subst hcap
      go_wp2_with fail
      refine (HHC.out w3 HFW.out).mono ?_
      rintro e w4 ⟨rfl, hf4⟩
      go_wp2_with fail
      go_meet
      exact ⟨rfl, hf4⟩
    · rw [if_neg hcap] at HHC
      go_wp2_with fail
      refine (HHC.out w3 HFW.out).mono ?_
      rintro e w4 ⟨rfl, hf4⟩
      go_wp2_with fail
      go_meet
      exact ⟨rfl, hf4⟩
  case rest =>
    obtain ⟨rfl, hf4⟩ := hcut
    have HB4 := Lib.hid (hf4.blk HB3.out (by simp))
    have HM4 := Lib.hid (hf4.blk HBM.out (by simp))
    have HF4 := Lib.hid (HF3.out.trans hf4 (by simp))
    have HFW4 := Lib.hid (HX.out.trans HF4.out (by simp))
    have m14' : wc.cell? ⟨wx.heap.size, 14, none⟩ = some (.slice nb nm nc) := blk_cell HM4.out 14 rfl
    clear hf4 m14 HB3 HBM HF3 HFW HHC
    cases tt
    case true =>
      have HZ2 := Lib.hid (HZ.out.trans (if_pos (of_decide_eq_true HTT.out)))
      have HD2 := Lib.hid (show D = false by rw [HD.out, HZ2.out]; rfl)
      clear HZ HD
      obtain ⟨x0, x1, x2, x3, x4, x5⟩ := six_cells HB4.out
      have hz : ∀ j, (wc).frozen? ⟨wx.heap.size + 1, j, none⟩ = false := fun j => blk_frozen HB4.out j
      go_wp2_with fail
      have HBF := Lib.hid (setCells_all (w := wc) (p := wx.heap.size + 1) [.int .i64 0, .int .i64 0, .int .i64 0, .bool false, .int .i64 0, .slice none 0 0] HB4.out rfl)
      have HFF := Lib.hid (setCells_fr (p := wx.heap.size + 1) [.int .i64 0, .int .i64 0, .int .i64 0, .bool false, .int .i64 0, .slice none 0 0] 0 (wc))
      change bodyPost _ _ _ _ _ ((wc).setCells (wx.heap.size + 1) 0 [.int .i64 0, .int .i64 0, .int .i64 0, .bool false, .int .i64 0, .slice none 0 0])
      generalize (wc).setCells (wx.heap.size + 1) 0 [.int .i64 0, .int .i64 0, .int .i64 0, .bool false, .int .i64 0, .slice none 0 0] = wF at *
      obtain ⟨r0, r1, r2, r3, r4, r5⟩ := six_cells HBF.out
      refine bodyPost_ret (v := .tuple #[.agg #[.int .i64 0, .int .i64 0, .int .i64 0, .bool false, .int .i64 0, .slice none 0 0], .bool false, .iface 25 (.int .i64 10)]) (by simp [results, Tryd.results22, go_sem, r0, r1, r2, r3, r4, r5]) rfl ?_
      exact ⟨⟨0, 0, 0, 0, false, none, 0, 0, by rw [HZ2.out, HD2.out]; rfl⟩, HF4.out.trans HFF.out (fun x hx => by simp only [List.mem_singleton] at hx; exact .inr (by omega))⟩
    have HZ2 := Lib.hid (HZ.out.trans (if_neg (of_decide_eq_false HTT.out)))
    clear HZ HTT HSF
    obtain ⟨b1, o1, c1, he1, _, _, _, hc1⟩ := HM.out.rd.shape (by omega) (by decide)
    simp only [Value.slice.injEq, true_and] at he1
    obtain ⟨rfl, rfl⟩ := he1
    obtain ⟨na', nc', da, dc, hF, hok⟩ := HM.out.at_ i (by omega)
    have hwf := HM.out.wf i (by omega)
    have hil : i < nm := by omega
    have k1 := HFW4.out.cell (hc1 i 0 hil (by decide)) (by simp)
    have k2 := HFW4.out.cell (hc1 i 1 hil (by decide)) (by simp)
    have k3 := HFW4.out.cell (hc1 i 2 hil (by decide)) (by simp)
    have k4 := HFW4.out.cell (hc1 i 3 hil (by decide)) (by simp)
    have k5 := HFW4.out.cell (hc1 i 4 hil (by decide)) (by simp)
    rw [hF 0 (by decide)] at k1
    rw [hF 1 (by decide)] at k2
    rw [hF 2 (by decide)] at k3
    rw [hF 3 (by decide)] at k4
    rw [hF 4 (by decide)] at k5
    simp only [Rs.F, Nat.add_zero] at k1 k2 k3 k4 k5
    have HOP := Lib.hid (fun (wz : World) (h : Fr [] w wz) => options_any wz da (MM i).dl dc (MM i).dt (hok.rdd.fr h (by simp)) hwf.dt0 hsm)
    have ht0 := hwf.tt0
    have hc0 := hwf.cl0
    clear hc1 hF hok hwf HM
    have HRB := Lib.hid (show recBad (MM i) ↔ (0 < (MM i).nl ∨ (MM i).cl < 0 ∨ 65535 < (MM i).cl ∨ (MM i).tt < 0 ∨ 4294967295 < (MM i).tt) from Iff.rfl)
    generalize (MM i).ty = ty at *
    generalize (MM i).cl = cl at *
    generalize (MM i).tt = tl at *
    generalize (MM i).nl = nl at *
    generalize (MM i).dl = dl at *
    generalize (MM i).dt = dt at *
    generalize optsZ dt dl = oz at *
    generalize hrb : decide (recBad (MM i)) = rb at *
    have HRBB := Lib.hid hrb
    clear hrb
    have HBR := Lib.hid (heap_alloc_new wc (.cells #[.slice na' nl nc', .int .i64 ty, .int .i64 cl, .int .i64 tl, .slice da dl dc] 60))
    have HFA := Lib.hid (show Fr [] wc (wc.alloc (.cells #[.slice na' nl nc', .int .i64 ty, .int .i64 cl, .int .i64 tl, .slice da dl dc] 60)) from (Fr.refl _ _).alloc _)
    go_upto_region 7 with fail
    generalize wc.alloc (.cells #[.slice na' nl nc', .int .i64 ty, .int .i64 cl, .int .i64 tl, .slice da dl dc] 60) = wA at *
    have HBA := Lib.hid (HFA.out.blk HB4.out (by simp))
    have HFAW := Lib.hid (HF4.out.trans HFA.out (by simp))
    have HFAX := Lib.hid (HFW4.out.trans HFA.out (by simp))
    clear HFA HF4 HFW4 HB4 k1 k2 k3 k4 k5 m14'
    have k0 : wA.cell? ⟨wc.heap.size, 0, none⟩ = some (.slice na' nl nc') := blk_cell HBR.out 0 rfl
    have k2 : wA.cell? ⟨wc.heap.size, 2, none⟩ = some (.int .i64 cl) := blk_cell HBR.out 2 rfl
    have k3 : wA.cell? ⟨wc.heap.size, 3, none⟩ = some (.int .i64 tl) := blk_cell HBR.out 3 rfl
    have k4 : wA.cell? ⟨wc.heap.size, 4, none⟩ = some (.slice da dl dc) := blk_cell HBR.out 4 rfl
    go_cut [52] (fun v wy => v = .bool rb ∧ wy = wA)
    case first =>
      by_cases c0 : 0 < nl
      · have hrb : rb = true := by rw [← HRBB.out]; exact decide_eq_true (HRB.out.2 (.inl c0))
        have c0' : (0 : Int) < (nl : Int) := by omega
        go_wp2_with fail
        go_meet
        exact ⟨by rw [hrb], rfl⟩
      have c0' : ¬ (0 : Int) < (nl : Int) := by omega
      by_cases c1 : cl < 0
      · have hrb : rb = true := by rw [← HRBB.out]; exact decide_eq_true (HRB.out.2 (.inr (.inl c1)))
        go_wp2_with fail
        go_meet
        exact ⟨by rw [hrb], rfl⟩
      by_cases c2 : 65535 < cl
      · have hrb : rb = true := by rw [← HRBB.out]; exact decide_eq_true (HRB.out.2 (.inr (.inr (.inl c2))))
        go_wp2_with fail
        go_meet
        exact ⟨by rw [hrb], rfl⟩
      by_cases c3 : tl < 0
      · have hrb : rb = true := by rw [← HRBB.out]; exact decide_eq_true (HRB.out.2 (.inr (.inr (.inr (.inl c3)))))
        go_wp2_with fail
        go_meet
        exact ⟨by rw [hrb], rfl⟩
      by_cases c4 : 4294967295 < tl
      · have hrb : rb = true := by rw [← HRBB.out]; exact decide_eq_true (HRB.out.2 (.inr (.inr (.inr (.inr c4)))))
        have c5 : 0 < tl / 4294967296 := by omega
        go_wp2_with fail
        go_meet
        exact ⟨by rw [hrb], rfl⟩
      · have hrb : rb = false := by rw [← HRBB.out]; exact decide_eq_false (fun h => by have := HRB.out.1 h; omega)
        have c5 : ¬ 0 < tl / 4294967296 := by omega
        go_wp2_with fail
        go_meet
        exact ⟨by rw [hrb], rfl⟩
    case rest =>
      obtain ⟨rfl, hw⟩ := hcut
      replace hw := hw.symm
      subst hw
      cases rb
      case true =>
        have HZ3 := Lib.hid (HZ2.out.trans (if_pos (of_decide_eq_true HRBB.out)))
        have HD2 := Lib.hid (show D = false by rw [HD.out, HZ3.out]; rfl)
        clear HZ2 HD HRB HRBB HOP k0 k2 k3 k4
        obtain ⟨x0, x1, x2, x3, x4, x5⟩ := six_cells HBA.out
        have hz : ∀ j, (wA).frozen? ⟨wx.heap.size + 1, j, none⟩ = false := fun j => blk_frozen HBA.out j
        go_wp2_with fail
        have HBF := Lib.hid (setCells_all (w := wA) (p := wx.heap.size + 1) [.int .i64 0, .int .i64 0, .int .i64 0, .bool false, .int .i64 0, .slice none 0 0] HBA.out rfl)
        have HFF := Lib.hid (setCells_fr (p := wx.heap.size + 1) [.int .i64 0, .int .i64 0, .int .i64 0, .bool false, .int .i64 0, .slice none 0 0] 0 (wA))
        change bodyPost _ _ _ _ _ ((wA).setCells (wx.heap.size + 1) 0 [.int .i64 0, .int .i64 0, .int .i64 0, .bool false, .int .i64 0, .slice none 0 0])
        generalize (wA).setCells (wx.heap.size + 1) 0 [.int .i64 0, .int .i64 0, .int .i64 0, .bool false, .int .i64 0, .slice none 0 0] = wF at *
        obtain ⟨r0, r1, r2, r3, r4, r5⟩ := six_cells HBF.out
        refine bodyPost_ret (v := .tuple #[.agg #[.int .i64 0, .int .i64 0, .int .i64 0, .bool false, .int .i64 0, .slice none 0 0], .bool false, .iface 25 (.int .i64 1)]) (by simp [results, Tryd.results22, go_sem, r0, r1, r2, r3, r4, r5]) rfl ?_
        exact ⟨⟨0, 0, 0, 0, false, none, 0, 0, by rw [HZ3.out, HD2.out]; rfl⟩, HFAW.out.trans HFF.out (fun x hx => by simp only [List.mem_singleton] at hx; exact .inr (by omega))⟩
      have HZ3 := Lib.hid (HZ2.out.trans (if_neg (of_decide_eq_false HRBB.out)))
      have hnb : ¬ (0 < nl ∨ cl < 0 ∨ 65535 < cl ∨ tl < 0 ∨ 4294967295 < tl) := fun h => (of_decide_eq_false HRBB.out) (HRB.out.2 h)
      clear HZ2 HRB HRBB
      go_wp2_with fail
      refine (HOP.out _ HFAX.out).mono ?_
      rintro e w6 ⟨⟨oa, on, oc, rfl⟩, hf6⟩
      have HB6 := Lib.hid (hf6.blk HBA.out (by simp))
      have HF6 := Lib.hid (HFAW.out.trans hf6 (by simp))
      have k2' : w6.cell? ⟨wc.heap.size, 2, none⟩ = some (.int .i64 cl) := blk_cell (hf6.blk HBR.out (by simp)) 2 rfl
      have k3' : w6.cell? ⟨wc.heap.size, 3, none⟩ = some (.int .i64 tl) := blk_cell (hf6.blk HBR.out (by simp)) 3 rfl
      clear hf6 HOP k0 k2 k3 k4 HBR
      by_cases hoz : oz = 0
      case neg =>
        have HV := Lib.hid (show erVn oz = .iface 25 (.int .i64 oz) by unfold erVn; rw [if_neg hoz])
        have HD2 := Lib.hid (show D = false by rw [HD.out, HZ3.out, decide_eq_false hoz]; rfl)
        rw [HV.out]
        have HOZ := Lib.hid hoz
        clear hoz HD
        obtain ⟨x0, x1, x2, x3, x4, x5⟩ := six_cells HB6.out
        have hz : ∀ j, (w6).frozen? ⟨wx.heap.size + 1, j, none⟩ = false := fun j => blk_frozen HB6.out j
        go_wp2_with fail
        have HBF := Lib.hid (setCells_all (w := w6) (p := wx.heap.size + 1) [.int .i64 0, .int .i64 0, .int .i64 0, .bool false, .int .i64 0, .slice none 0 0] HB6.out rfl)
        have HFF := Lib.hid (setCells_fr (p := wx.heap.size + 1) [.int .i64 0, .int .i64 0, .int .i64 0, .bool false, .int .i64 0, .slice none 0 0] 0 (w6))
        change bodyPost _ _ _ _ _ ((w6).setCells (wx.heap.size + 1) 0 [.int .i64 0, .int .i64 0, .int .i64 0, .bool false, .int .i64 0, .slice none 0 0])
        generalize (w6).setCells (wx.heap.size + 1) 0 [.int .i64 0, .int .i64 0, .int .i64 0, .bool false, .int .i64 0, .slice none 0 0] = wF at *
        obtain ⟨r0, r1, r2, r3, r4, r5⟩ := six_cells HBF.out
        refine bodyPost_ret (v := .tuple #[.agg #[.int .i64 0, .int .i64 0, .int .i64 0, .bool false, .int .i64 0, .slice none 0 0], .bool false, .iface 25 (.int .i64 oz)]) (by simp [results, Tryd.results22, go_sem, r0, r1, r2, r3, r4, r5]) rfl ?_
        exact ⟨⟨0, 0, 0, 0, false, none, 0, 0, by rw [HZ3.out, HD2.out, HV.out]⟩, HF6.out.trans HFF.out (fun x hx => by simp only [List.mem_singleton] at hx; exact .inr (by omega))⟩
      subst hoz
      have HV := Lib.hid (show erVn 0 = .nilIface from rfl)
      rw [HV.out]
      have q1 := and_255 (x := tl / 65536) (by omega) (by omega)
      have q2 := and_1 (x := tl / 32768) (by omega) (by omega)
      have q3 := and_32767 (x := tl) (by omega) (by omega)
      have HD2 := Lib.hid (show D = (tl / 32768 % 2 == 1) by rw [HD.out, HZ3.out]; simp; rfl)
      clear HD hnb
      obtain ⟨x0, x1, x2, x3, x4, x5⟩ := six_cells HB6.out
      have hz : ∀ j, (w6).frozen? ⟨wx.heap.size + 1, j, none⟩ = false := fun j => blk_frozen HB6.out j
      go_wp2_with fail
      have HBF := Lib.hid (setCells_all (w := w6) (p := wx.heap.size + 1) [.int .i64 cl, .int .i64 (tl / 16777216), .int .i64 (tl / 65536 % 256), .bool (tl / 32768 % 2 == 1), .int .i64 (tl % 32768), .slice oa on oc] HB6.out rfl)
      have HFF := Lib.hid (setCells_fr (p := wx.heap.size + 1) [.int .i64 cl, .int .i64 (tl / 16777216), .int .i64 (tl / 65536 % 256), .bool (tl / 32768 % 2 == 1), .int .i64 (tl % 32768), .slice oa on oc] 0 w6)
      change bodyPost _ _ _ _ _ (w6.setCells (wx.heap.size + 1) 0 [.int .i64 cl, .int .i64 (tl / 16777216), .int .i64 (tl / 65536 % 256), .bool (tl / 32768 % 2 == 1), .int .i64 (tl % 32768), .slice oa on oc])
      generalize w6.setCells (wx.heap.size + 1) 0 [.int .i64 cl, .int .i64 (tl / 16777216), .int .i64 (tl / 65536 % 256), .bool (tl / 32768 % 2 == 1), .int .i64 (tl % 32768), .slice oa on oc] = wF at *
      obtain ⟨r0, r1, r2, r3, r4, r5⟩ := six_cells HBF.out
      refine bodyPost_ret (v := .tuple #[.agg #[.int .i64 cl, .int .i64 (tl / 16777216), .int .i64 (tl / 65536 % 256), .bool (tl / 32768 % 2 == 1), .int .i64 (tl % 32768), .slice oa on oc], .bool true, .nilIface]) (by simp [results, Tryd.results22, go_sem, r0, r1, r2, r3, r4, r5]) rfl ?_
      exact ⟨⟨_, _, _, _, _, _, _, _, by rw [HZ3.out, HD2.out]; rfl⟩, HF6.out.trans HFF.out (fun x hx => by simp only [List.mem_singleton] at hx; exact .inr (by omega))⟩

end Go.Proofs.YtkdmkpdooiacaaaDoor
