/- What the texts below need: Alike, AllR, KeyOne, RefSent, RoomKey. -/
import Derived.Deep.RegionHeld3
import Derived.Test.YtkdmkpdooiacaaaDoorZbase1
namespace Go.Proofs.YtkdmkpdooiacaaaDoor
open Go.RowKit

/-- are two questions the same, but for great letters? -/
def qsEq (x y : Qs) : Bool := decide (x.ty = y.ty) && (decide (x.cl = y.cl) && nmEq x.nl y.nl x.nm y.nm)

def alikeF (q a : Ms) : Bool := decide (q.qn = 1) && (decide (a.qn = 1) && qsEq (q.Q 0) (a.Q 0))

theorem two_new (w : World) (x y : Obj) : ((w.alloc x).alloc y).heap[w.heap.size]? = some x ∧ ((w.alloc x).alloc y).heap[w.heap.size + 1]? = some y ∧ ((w.alloc x).alloc y).heap.size = w.heap.size + 1 + 1 := by
  have s1 : (w.alloc x).heap.size = w.heap.size + 1 := by simp
  refine ⟨((Fr.refl [] _).alloc y).blk (heap_alloc_new w x) (by simp), ?_, by simp⟩
  rw [← s1]
  exact heap_alloc_new _ y

set_option maxHeartbeats 4000000 in
set_option maxRecDepth 100000 in
theorem alike_msg (w : World) (B : HB) (q a : Ms) (vq va vu vm xq xa xu xm : Value) (hq : MsOk B w q vq va vu vm) (ha : MsOk B w a xq xa xu xm) :
    Calls Tryd.prog 26 #[msgV q.h vq va vu vm, msgV a.h xq xa xu xm] w fun e w' => e = .returned (.bool (alikeF q a)) ∧ Fr [] w w' := by
  obtain ⟨F, hQ⟩ := hq.hq
  obtain ⟨G, hA⟩ := ha.hq
  obtain ⟨qb, qc, rfl⟩ := hQ.rd.slice
  obtain ⟨ab, ac, rfl⟩ := hA.rd.slice
  have hnq := hQ.nb
  have hna := hA.nb
  have HF := Lib.hid (show alikeF q a = (decide (q.qn = 1) && (decide (a.qn = 1) && qsEq (q.Q 0) (a.Q 0))) from rfl)
  clear hq ha
  obtain ⟨h, nq, Q, an, A, un, U, mn, M⟩ := q
  obtain ⟨g, na, P, an', A', un', U', mn', M'⟩ := a
  simp only at *
  by_cases h1 : nq = 1
  case neg =>
    have hb : ((nq : Int) != 1) = true := by simp; omega
    have HE := Lib.hid (HF.out.trans (by simp [h1] : _ = false))
    unfold msgV
    clear hQ hA HF h1
    go_enter Tryd.func26, Tryd.ntmps26
    go_wp2
    go_ret
    exact ⟨by rw [HE.out]; rfl, ((Fr.refl [] w).alloc _).alloc _⟩
  subst h1
  by_cases h2 : na = 1
  case neg =>
    have hb : ((na : Int) != 1) = true := by simp; omega
    have HE := Lib.hid (HF.out.trans (by simp [h2] : _ = false))
    unfold msgV
    clear hQ hA HF h2
    go_enter Tryd.func26, Tryd.ntmps26
    go_wp2
    go_ret
    exact ⟨by rw [HE.out]; rfl, ((Fr.refl [] w).alloc _).alloc _⟩
  subst h2
  obtain ⟨b1, o1, c1, he1, _, _, hb1, hc1⟩ := hQ.rd.shape (by decide) (by decide)
  simp only [Value.slice.injEq, true_and] at he1
  obtain ⟨rfl, rfl⟩ := he1
  obtain ⟨b2, o2, c2, he2, _, _, hb2, hc2⟩ := hA.rd.shape (by decide) (by decide)
  simp only [Value.slice.injEq, true_and] at he2
  obtain ⟨rfl, rfl⟩ := he2
  obtain ⟨n1, m1, hF1, hr1, _⟩ := hQ.at_ 0 (by decide)
  obtain ⟨n2, m2, hF2, hr2, _⟩ := hA.at_ 0 (by decide)
  have hw1 := hQ.wf 0 (by decide)
  have hw2 := hA.wf 0 (by decide)
  have HCEL := Lib.hid (fun (wx : World) (h : Fr [] w wx) => show (wx.cell? ⟨b1, o1, none⟩ = some (.slice n1 (Q 0).nl m1) ∧ wx.cell? ⟨b1, o1 + 1, none⟩ = some (.int .i64 (Q 0).ty) ∧ wx.cell? ⟨b1, o1 + 2, none⟩ = some (.int .i64 (Q 0).cl)) ∧ wx.cell? ⟨b2, o2, none⟩ = some (.slice n2 (P 0).nl m2) ∧ wx.cell? ⟨b2, o2 + 1, none⟩ = some (.int .i64 (P 0).ty) ∧ wx.cell? ⟨b2, o2 + 2, none⟩ = some (.int .i64 (P 0).cl) from by
    have e1 := hc1 0 0 (by decide) (by decide)
    have e2 := hc1 0 1 (by decide) (by decide)
    have e3 := hc1 0 2 (by decide) (by decide)
    have e4 := hc2 0 0 (by decide) (by decide)
    have e5 := hc2 0 1 (by decide) (by decide)
    have e6 := hc2 0 2 (by decide) (by decide)
    rw [hF1 0 (by decide)] at e1
    rw [hF1 1 (by decide)] at e2
    rw [hF1 2 (by decide)] at e3
    rw [hF2 0 (by decide)] at e4
    rw [hF2 1 (by decide)] at e5
    rw [hF2 2 (by decide)] at e6
    simp only [Qs.F, Nat.add_zero, Nat.zero_mul] at e1 e2 e3 e4 e5 e6
    exact ⟨⟨h.cell e1 (by simp), h.cell e2 (by simp), h.cell e3 (by simp)⟩, h.cell e4 (by simp), h.cell e5 (by simp), h.cell e6 (by simp)⟩)
  have HS := Lib.hid (fun (wx : World) (h : Fr [] w wx) => same_any wx n1 n2 (Q 0).nl (P 0).nl m1 m2 (Q 0).nm (P 0).nm (hr1.fr h (fun _ _ _ _ => by simp)) (hr2.fr h (fun _ _ _ _ => by simp)) (fun j hj => by have := hw1.nms j hj; omega) (fun j hj => by have := hw2.nms j hj; omega))
  have HE := Lib.hid (show alikeF ⟨h, 1, Q, an, A, un, U, mn, M⟩ ⟨g, 1, P, an', A', un', U', mn', M'⟩ = (decide ((Q 0).ty = (P 0).ty) && (decide ((Q 0).cl = (P 0).cl) && nmEq (Q 0).nl (P 0).nl (Q 0).nm (P 0).nm)) from rfl)
  clear HF hQ hA hc1 hc2 hF1 hF2 hr1 hr2 hw1 hw2
  generalize alikeF ⟨h, 1, Q, an, A, un, U, mn, M⟩ ⟨g, 1, P, an', A', un', U', mn', M'⟩ = res at *
  generalize Q 0 = x at *
  generalize P 0 = y at *
  obtain ⟨i0, i1, i2, i3, i4, i5, i6, i7, i8, i9, i10⟩ := h
  obtain ⟨j0, j1, j2, j3, j4, j5, j6, j7, j8, j9, j10⟩ := g
  simp only [msgV]
  go_enter Tryd.func26, Tryd.ntmps26
  go_upto_region 3 with fail
  have HW2 := Lib.hid (show Fr [] w ((w.alloc (.cells #[.int .i64 i0, .bool i1, .int .i64 i2, .bool i3, .bool i4, .bool i5, .bool i6, .bool i7, .bool i8, .bool i9, .int .i64 i10, .slice (some ⟨b1, o1, none⟩) 1 qc, va, vu, vm] 43)).alloc (.cells #[.int .i64 j0, .bool j1, .int .i64 j2, .bool j3, .bool j4, .bool j5, .bool j6, .bool j7, .bool j8, .bool j9, .int .i64 j10, .slice (some ⟨b2, o2, none⟩) 1 ac, xa, xu, xm] 43)) from ((Fr.refl [] w).alloc _).alloc _)
  obtain ⟨hb0, hb1', hbs⟩ := two_new w (.cells #[.int .i64 i0, .bool i1, .int .i64 i2, .bool i3, .bool i4, .bool i5, .bool i6, .bool i7, .bool i8, .bool i9, .int .i64 i10, .slice (some ⟨b1, o1, none⟩) 1 qc, va, vu, vm] 43) (.cells #[.int .i64 j0, .bool j1, .int .i64 j2, .bool j3, .bool j4, .bool j5, .bool j6, .bool j7, .bool j8, .bool j9, .int .i64 j10, .slice (some ⟨b2, o2, none⟩) 1 ac, xa, xu, xm] 43)
  have HB0 := Lib.hid hb0
  have HB1 := Lib.hid hb1'
  clear hb0 hb1'
  generalize (w.alloc (.cells #[.int .i64 i0, .bool i1, .int .i64 i2, .bool i3, .bool i4, .bool i5, .bool i6, .bool i7, .bool i8, .bool i9, .int .i64 i10, .slice (some ⟨b1, o1, none⟩) 1 qc, va, vu, vm] 43)).alloc (.cells #[.int .i64 j0, .bool j1, .int .i64 j2, .bool j3, .bool j4, .bool j5, .bool j6, .bool j7, .bool j8, .bool j9, .int .i64 j10, .slice (some ⟨b2, o2, none⟩) 1 ac, xa, xu, xm] 43) = W2 at *
  have HSF := Lib.hid (fun (wx : World) (h : Fr [] W2 wx) => show (wx.cell? ⟨w.heap.size, 11, none⟩ = some (.slice (some ⟨b1, o1, none⟩) 1 qc) ∧ wx.cell? ⟨w.heap.size + 1, 11, none⟩ = some (.slice (some ⟨b2, o2, none⟩) 1 ac)) ∧ (wx.cell? ⟨b1, o1, none⟩ = some (.slice n1 x.nl m1) ∧ wx.cell? ⟨b1, o1 + 1, none⟩ = some (.int .i64 x.ty) ∧ wx.cell? ⟨b1, o1 + 2, none⟩ = some (.int .i64 x.cl)) ∧ wx.cell? ⟨b2, o2, none⟩ = some (.slice n2 y.nl m2) ∧ wx.cell? ⟨b2, o2 + 1, none⟩ = some (.int .i64 y.ty) ∧ wx.cell? ⟨b2, o2 + 2, none⟩ = some (.int .i64 y.cl) from
    ⟨⟨blk_cell (h.blk HB0.out (by simp)) 11 rfl, blk_cell (h.blk HB1.out (by simp)) 11 rfl⟩, HCEL.out wx (HW2.out.trans h (by simp))⟩)
  go_cut [5, 6] (fun p1 p2 wx => ∃ bx b', p1 = .pointer (some ⟨bx, 0, none⟩) ∧ p2 = .pointer (some ⟨b', 0, none⟩) ∧ wx.heap[bx]? = some (.cells #[.slice n1 x.nl m1, .int .i64 x.ty, .int .i64 x.cl] 58 (0, 0)) ∧ wx.heap[b']? = some (.cells #[.slice n2 y.nl m2, .int .i64 y.ty, .int .i64 y.cl] 58 (0, 0)) ∧ Fr [] W2 wx)
  case first =>
    clear HCEL HS HE HW2 HB0 HB1
    go_region_held3 (fun wx => (wx.cell? ⟨w.heap.size, 11, none⟩ = some (.slice (some ⟨b1, o1, none⟩) 1 qc) ∧ wx.cell? ⟨w.heap.size + 1, 11, none⟩ = some (.slice (some ⟨b2, o2, none⟩) 1 ac)) ∧ (wx.cell? ⟨b1, o1, none⟩ = some (.slice n1 x.nl m1) ∧ wx.cell? ⟨b1, o1 + 1, none⟩ = some (.int .i64 x.ty) ∧ wx.cell? ⟨b1, o1 + 2, none⟩ = some (.int .i64 x.cl)) ∧ wx.cell? ⟨b2, o2, none⟩ = some (.slice n2 y.nl m2) ∧ wx.cell? ⟨b2, o2 + 1, none⟩ = some (.int .i64 y.ty) ∧ wx.cell? ⟨b2, o2 + 2, none⟩ = some (.int .i64 y.cl))
      ((refine HSF.out _ ?_; repeat (first | exact Fr.refl _ _ | refine Fr.drew ?_ | refine Fr.alloc ?_ _ | refine Fr.setCell ?_ (by right; simp) _)))
      (fail)
    all_goals go_wp2_with fail
    all_goals go_meet
    · obtain ⟨e1, e2, _⟩ := two_new W2 (.cells #[.slice n1 x.nl m1, .int .i64 x.ty, .int .i64 x.cl] 58) (.cells #[.slice n2 y.nl m2, .int .i64 y.ty, .int .i64 y.cl] 58)
      rw [hbs] at e1 e2
      exact ⟨_, _, rfl, rfl, e1, e2, (((Fr.refl _ _).alloc _).alloc _).drew⟩
    · obtain ⟨e1, e2, _⟩ := two_new W2 (.cells #[.slice n2 y.nl m2, .int .i64 y.ty, .int .i64 y.cl] 58) (.cells #[.slice n1 x.nl m1, .int .i64 x.ty, .int .i64 x.cl] 58)
      rw [hbs] at e1 e2
      exact ⟨_, _, rfl, rfl, e2, e1, (((Fr.refl _ _).alloc _).alloc _).drew⟩
  case rest =>
    obtain ⟨bx, b', rfl, rfl, hbx, hby, hfc⟩ := hcut
    have HFC := Lib.hid (HW2.out.trans hfc (by simp))
    have x0 := blk_cell hbx 0 rfl
    have x1 := blk_cell hbx 1 rfl
    have x2 := blk_cell hbx 2 rfl
    have y0 := blk_cell hby 0 rfl
    have y1 := blk_cell hby 1 rfl
    have y2 := blk_cell hby 2 rfl
    clear hbx hby hfc HSF HB0 HB1 HCEL
    by_cases t1 : x.ty = y.ty
    · by_cases t2 : x.cl = y.cl
      · have HR := Lib.hid (show res = nmEq x.nl y.nl x.nm y.nm by rw [HE.out, decide_eq_true t1, decide_eq_true t2]; rfl)
        have d1 : (x.ty == y.ty) = true := by simp [t1]
        have d2 : (x.cl == y.cl) = true := by simp [t2]
        clear t1 t2
        go_wp2_with (go_at_call 48; refine (HS.out _ HFC.out).mono ?_; rintro e w5 ⟨rfl, hf5⟩)
        go_ret
        exact ⟨by rw [HR.out]; rfl, HFC.out.trans hf5 (by simp)⟩
      · have HR := Lib.hid (show res = false by rw [HE.out, decide_eq_false t2]; simp)
        have d1 : (x.ty == y.ty) = true := by simp [t1]
        have d2 : (x.cl == y.cl) = false := by simp [t2]
        clear t1 t2
        go_wp2
        go_ret
        exact ⟨by rw [HR.out]; rfl, HFC.out⟩
    · have HR := Lib.hid (show res = false by rw [HE.out, decide_eq_false t1]; simp)
      have d1 : (x.ty == y.ty) = false := by simp [t1]
      clear t1
      go_wp2
      go_ret
      exact ⟨by rw [HR.out]; rfl, HFC.out⟩

end Go.Proofs.YtkdmkpdooiacaaaDoor

namespace Go.Proofs.YtkdmkpdooiacaaaDoor
open Go.RowKit

/-- the i-th of a message's records -/
def Ms.R (m : Ms) (i : Nat) : Rs := if i < m.an then m.A i else if i < m.an + m.un then m.U (i - m.an) else m.M (i - (m.an + m.un))
def Ms.N (m : Ms) : Nat := m.an + m.un + m.mn

set_option maxHeartbeats 4000000 in
set_option maxRecDepth 100000 in
theorem all_any (w : World) (B : HB) (m : Ms) (vq va vu vm : Value) (hm : MsOk B w m vq va vu vm) (hS : ∀ x ∈ B.s, x < w.heap.size) (hsz : (m.an + m.un + m.mn) * 72 ≤ 140737488355328) :
    Calls Tryd.prog 47 #[msgV m.h vq va vu vm] w fun e w' => ∃ v' G, e = .returned v' ∧ OwnC w' w.heap.size 60 v' 5 m.N G ∧ Sec B w' v' m.N m.R G ∧ Fr [] w w' := by
  obtain ⟨_, hm1⟩ := hm.hq
  obtain ⟨FA, hA⟩ := hm.ha
  obtain ⟨FU, hU⟩ := hm.hu
  obtain ⟨FM, hM⟩ := hm.hm
  obtain ⟨mb, mc, rfl⟩ := hm1.rd.slice
  obtain ⟨ab, ac, rfl⟩ := hA.rd.slice
  obtain ⟨ub, uc, rfl⟩ := hU.rd.slice
  obtain ⟨nb, nc, rfl⟩ := hM.rd.slice
  have HA := Lib.hid hA
  have HU := Lib.hid hU
  have HM := Lib.hid hM
  have HNN := Lib.hid (show m.N = m.an + m.un + m.mn from rfl)
  have HRR := Lib.hid (show ∀ i, m.R i = if i < m.an then m.A i else if i < m.an + m.un then m.U (i - m.an) else m.M (i - (m.an + m.un)) from fun i => rfl)
  clear hm hm1 hA hU hM
  generalize m.N = NN at *
  generalize m.R = RR at *
  generalize m.h = h at *
  generalize m.qn = nq at *
  generalize m.an = na at *
  generalize m.un = nu at *
  generalize m.mn = nm at *
  generalize m.A = MA at *
  generalize m.U = MU at *
  generalize m.M = MM at *
  obtain ⟨h0, h1, h2, h3, h4, h5, h6, h7, h8, h9, h10⟩ := h
  simp only [msgV]
  have HF1 := Lib.hid (show Fr [] w (w.alloc (.cells #[.int .i64 h0, .bool h1, .int .i64 h2, .bool h3, .bool h4, .bool h5, .bool h6, .bool h7, .bool h8, .bool h9, .int .i64 h10, .slice mb nq mc, .slice ab na ac, .slice ub nu uc, .slice nb nm nc] 43)) from (Fr.refl [] w).alloc _)
  have HB1 := Lib.hid (heap_alloc_new w (.cells #[.int .i64 h0, .bool h1, .int .i64 h2, .bool h3, .bool h4, .bool h5, .bool h6, .bool h7, .bool h8, .bool h9, .int .i64 h10, .slice mb nq mc, .slice ab na ac, .slice ub nu uc, .slice nb nm nc] 43))
  go_enter Tryd.func47, Tryd.ntmps47
  go_upto_region 2 with fail
  generalize w.alloc (.cells #[.int .i64 h0, .bool h1, .int .i64 h2, .bool h3, .bool h4, .bool h5, .bool h6, .bool h7, .bool h8, .bool h9, .int .i64 h10, .slice mb nq mc, .slice ab na ac, .slice ub nu uc, .slice nb nm nc] 43) = W at *
  have x12 : W.cell? ⟨w.heap.size, 12, none⟩ = some (.slice ab na ac) := blk_cell HB1.out 12 rfl
  go_upto_region 3 with (at_builtin; refine wpList_appC rfl (.tmp 4) (.tmp 6) 41 rfl 60 infoRec Tryd.underlying41 rfl (by decide) (fun j hj => HA.out.one _ _ (div_lt' hj) (Nat.mod_lt _ (by decide))) (OwnC.nil _ w.heap.size _ _ (fun _ _ => undef)) rfl (HA.out.rd.fr HF1.out) rfl (by unfold maxLen; omega) (by omega) HF1.out.size ?_; intro v1 w1 ho1 hf1 _)
  obtain ⟨a1, c1, rfl⟩ := ho1.rd.slice
  have hfr1 : Fr [] W w1 := hf1.mono (by simp [Value.ownBlock])
  have HO1 := Lib.hid ho1
  have HW1 := Lib.hid (HF1.out.trans hfr1 (by simp))
  have HB2 := Lib.hid (hfr1.blk HB1.out (by simp))
  have x13 : w1.cell? ⟨w.heap.size, 13, none⟩ = some (.slice ub nu uc) := blk_cell HB2.out 13 rfl
  clear ho1 hf1 hfr1 x12
  go_upto_region 4 with (at_builtin; refine wpList_appC rfl (.tmp 8) (.tmp 10) 41 rfl 60 infoRec Tryd.underlying41 rfl (by decide) (fun j hj => HU.out.one _ _ (div_lt' hj) (Nat.mod_lt _ (by decide))) HO1.out rfl (HU.out.rd.fr HW1.out) rfl (by unfold maxLen; omega) (by omega) HW1.out.size ?_; intro v2 w2 ho2 hf2 _)
  obtain ⟨a2, c2, rfl⟩ := ho2.rd.slice
  have HO2 := Lib.hid ho2
  have HW2 := Lib.hid (HW1.out.trans hf2 (fun x hx => .inr (HO1.out.ge x hx)))
  have HB3 := Lib.hid (hf2.blk HB2.out (HO1.out.apart HB2.out (by decide)))
  have x14 : w2.cell? ⟨w.heap.size, 14, none⟩ = some (.slice nb nm nc) := blk_cell HB3.out 14 rfl
  clear ho2 hf2 x13
  go_wp2_with (at_builtin; refine wpList_appC rfl (.tmp 12) (.tmp 14) 41 rfl 60 infoRec Tryd.underlying41 rfl (by decide) (fun j hj => HM.out.one _ _ (div_lt' hj) (Nat.mod_lt _ (by decide))) HO2.out rfl (HM.out.rd.fr HW2.out) rfl (by unfold maxLen; omega) (by omega) HW2.out.size ?_; intro v3 w3 ho3 hf3 _)
  go_ret
  have hfw : Fr [] w w3 := HW2.out.trans hf3 (fun x hx => .inr (HO2.out.ge x hx))
  have hN : NN = 0 + na + nu + nm := by rw [HNN.out]; omega
  have ho4 : OwnC w3 w.heap.size 60 v3 5 NN (appC (0 + na + nu) (appC (0 + na) (appC 0 (fun _ _ => undef) FA) FU) FM) := by rw [hN]; exact ho3
  refine ⟨v3, _, rfl, ho4, ⟨ho4.rd, ho4.cold (by decide) B hS, fun i hi => ?_, fun i hi => ?_, by rw [HNN.out]; omega⟩, hfw⟩
  · rw [HRR.out]
    unfold appC
    simp only [Nat.zero_add]
    by_cases h1 : i < na
    · rw [if_pos h1, if_pos (by omega), if_pos h1, if_neg (Nat.not_lt_zero _)]
      exact (HA.out.at_ i h1).frH (hfw.hot0 B)
    · by_cases h2 : i < na + nu
      · rw [if_neg h1, if_pos h2, if_pos h2, if_neg h1]
        exact (HU.out.at_ (i - na) (by omega)).frH (hfw.hot0 B)
      · simp only [if_neg h1, if_neg h2]
        exact (HM.out.at_ (i - (na + nu)) (by omega)).frH (hfw.hot0 B)
  · rw [HRR.out]
    by_cases h1 : i < na
    · rw [if_pos h1]; exact HA.out.wf i h1
    · by_cases h2 : i < na + nu
      · rw [if_neg h1, if_pos h2]; exact HU.out.wf _ (by omega)
      · rw [if_neg h1, if_neg h2]; exact HM.out.wf _ (by omega)

end Go.Proofs.YtkdmkpdooiacaaaDoor

namespace Go.Proofs.YtkdmkpdooiacaaaDoor
open Go.RowKit

theorem keyW_fr (w : World) (h : Hd) (q a u m x0 : Value) (ty cl : Int) : Fr [] w (keyW w h q a u m x0 ty cl) := ((Fr.refl [] w).alloc _).alloc _
theorem keyW_msg (w : World) (h : Hd) (q a u m x0 : Value) (ty cl : Int) : (keyW w h q a u m x0 ty cl).heap[w.heap.size]? = some (.cells #[.int .i64 h.id, .bool h.an, .int .i64 h.op, .bool h.aa, .bool h.tc, .bool h.rd, .bool h.ra, .bool h.z, .bool h.ad, .bool h.cd, .int .i64 h.code, q, a, u, m] 43 (0, 0)) := by
  unfold keyW
  exact ((Fr.refl [] _).alloc _).blk (heap_alloc_new w _) (by simp)
theorem keyW_q (w : World) (h : Hd) (q a u m x0 : Value) (ty cl : Int) : (keyW w h q a u m x0 ty cl).heap[w.heap.size + 1]? = some (.cells #[x0, .int .i64 ty, .int .i64 cl] 58 (0, 0)) := by
  unfold keyW
  have e : (w.alloc (.cells #[.int .i64 h.id, .bool h.an, .int .i64 h.op, .bool h.aa, .bool h.tc, .bool h.rd, .bool h.ra, .bool h.z, .bool h.ad, .bool h.cd, .int .i64 h.code, q, a, u, m] 43)).heap.size = w.heap.size + 1 := by simp
  rw [← e]
  exact heap_alloc_new _ _
theorem keyW_size (w : World) (h : Hd) (q a u m x0 : Value) (ty cl : Int) : (keyW w h q a u m x0 ty cl).heap.size = w.heap.size + 2 := by
  unfold keyW
  simp

set_option maxHeartbeats 4000000 in
set_option maxRecDepth 100000 in
/-- the name's fault -/
theorem key_name (w : World) (B : HB) (m : Ms) (vq va vu vm : Value) (hm : MsOk B w m vq va vu vm) (hq : m.qn = 1) (hz : nmFault (m.Q 0).nl (m.Q 0).nm ≠ 0) :
    Calls Tryd.prog 8 #[msgV m.h vq va vu vm] w fun e w' => e = .returned (.tuple #[.slice none 0 0, .iface 25 (.int .i64 (nmFault (m.Q 0).nl (m.Q 0).nm))]) ∧ Fr [] w w' := by
  obtain ⟨F, hQ⟩ := hm.hq
  rw [hq] at hQ
  obtain ⟨b1, o1, c1, rfl, hn1, hm1, hb1, hc1⟩ := hQ.rd.shape (by decide) (by decide)
  obtain ⟨na, nc, hF, hrn, hcd⟩ := hQ.at_ 0 (by decide)
  have hwf := hQ.wf 0 (by decide)
  have k1 := hc1 0 0 (by decide) (by decide)
  have k2 := hc1 0 1 (by decide) (by decide)
  have k3 := hc1 0 2 (by decide) (by decide)
  rw [hF 0 (by decide)] at k1
  rw [hF 1 (by decide)] at k2
  rw [hF 2 (by decide)] at k3
  simp only [Qs.F, Nat.add_zero, Nat.zero_mul] at k1 k2 k3
  clear hc1 hF hn1 hm1 hQ hm
  generalize m.Q 0 = q at *
  generalize m.h = h at *
  have HFD := Lib.hid (fun wx (hx : Fr [] w wx) => fold_any wx na q.nl nc q.nm (hrn.fr hx (fun _ _ _ _ => by simp)) hwf.nms hwf.nlb)
  have HWB := Lib.hid (fun wx a c (hx : RdF wx (.slice a q.nl c) q.nl (fun j => .string (smB (q.nm j)))) => wireWrite_bad wx a q.nl c (fun j => smB (q.nm j)) hx (fun j hj => by rw [smB_size]; exact hwf.nms j hj) (by rw [nmFault_sm]; exact hz))
  have HNS := Lib.hid (nmFault_sm q.nl q.nm)
  rw [HNS.out] at HWB
  generalize nmFault q.nl q.nm = z at *
  clear hwf hrn hcd
  unfold msgV
  go_enter Tryd.func8, Tryd.ntmps8
  go_wp2_with (go_at_call 21; refine (HFD.out _ (((Fr.refl [] w).alloc _).alloc _)).mono ?_; rintro e w1 ⟨v1, rfl, ho1, hf1⟩
               obtain ⟨a1, c1', rfl⟩ := ho1.rd.slice
               go_wp2_with (go_at_call 20; refine (HWB.out _ _ _ ho1.rd).mono ?_; rintro e w2 ⟨rfl, rfl⟩))
  go_ret2
  exact ⟨rfl, (((Fr.refl [] w).alloc _).alloc _).trans hf1 (by simp)⟩

set_option maxHeartbeats 4000000 in
set_option maxRecDepth 100000 in
/-- the numbers' fault -/
theorem key_range (w : World) (B : HB) (m : Ms) (vq va vu vm : Value) (hm : MsOk B w m vq va vu vm) (hq : m.qn = 1) (hz : nmFault (m.Q 0).nl (m.Q 0).nm = 0) (hr : ¬ (m.Q 0).ok) :
    Calls Tryd.prog 8 #[msgV m.h vq va vu vm] w fun e w' => e = .returned (.tuple #[.slice none 0 0, .iface 25 (.int .i64 6)]) ∧ Fr [] w w' := by
  obtain ⟨F, hQ⟩ := hm.hq
  rw [hq] at hQ
  obtain ⟨b1, o1, c1, rfl, hn1, hm1, hb1, hc1⟩ := hQ.rd.shape (by decide) (by decide)
  obtain ⟨na, nc, hF, hrn, hcd⟩ := hQ.at_ 0 (by decide)
  have hwf := hQ.wf 0 (by decide)
  have k1 := hc1 0 0 (by decide) (by decide)
  have k2 := hc1 0 1 (by decide) (by decide)
  have k3 := hc1 0 2 (by decide) (by decide)
  rw [hF 0 (by decide)] at k1
  rw [hF 1 (by decide)] at k2
  rw [hF 2 (by decide)] at k3
  simp only [Qs.F, Nat.add_zero, Nat.zero_mul] at k1 k2 k3
  clear hc1 hF hn1 hm1 hQ hm
  generalize m.Q 0 = q at *
  generalize m.h = h at *
  have HFD := Lib.hid (fun wx (hx : Fr [] w wx) => fold_any wx na q.nl nc q.nm (hrn.fr hx (fun _ _ _ _ => by simp)) hwf.nms hwf.nlb)
  have HWB := Lib.hid (fun wx a c (hx : RdF wx (.slice a q.nl c) q.nl (fun j => .string (smB (q.nm j)))) => wireWrite_ok wx a q.nl c (fun j => smB (q.nm j)) hx (fun j hj => by rw [smB_size]; exact hwf.nms j hj) (by rw [nmFault_sm]; exact hz))
  clear hwf hrn hcd hz
  have HKQ := Lib.hid (keyW_q w h (.slice (some ⟨b1, o1, none⟩) 1 c1) va vu vm (.slice na q.nl nc) q.ty q.cl)
  unfold Qs.ok at hr
  generalize q.ty = ty at *
  generalize q.cl = cl at *
  unfold msgV
  go_enter Tryd.func8, Tryd.ntmps8
  go_wp2_with (go_at_call 21; refine (HFD.out _ (((Fr.refl [] w).alloc _).alloc _)).mono ?_; rintro e w1 ⟨v1, rfl, ho1, hf1⟩
               obtain ⟨a1, c1', rfl⟩ := ho1.rd.slice
               go_wp2_with (go_at_call 20; refine (HWB.out _ _ _ ho1.rd).mono ?_; rintro e w2 ⟨v2, rfl, ho2, hf2⟩
                            have HF2 := Lib.hid ((((Fr.refl [] w).alloc _).alloc _).trans (hf1.trans hf2 (by simp)) (by simp))
                            have e1 := blk_cell ((hf1.trans hf2 (by simp)).blk HKQ.out (by simp)) 1 rfl
                            have e2 := blk_cell ((hf1.trans hf2 (by simp)).blk HKQ.out (by simp)) 2 rfl
                            clear ho1 hf1 ho2 hf2
                            by_cases h1 : ty < 0
                            · go_wp2
                              go_ret2
                              exact ⟨rfl, HF2.out⟩
                            · by_cases h2 : 65535 < ty
                              · go_wp2
                                go_ret2
                                exact ⟨rfl, HF2.out⟩
                              · by_cases h3 : cl < 0
                                · go_wp2
                                  go_ret2
                                  exact ⟨rfl, HF2.out⟩
                                · have h4 : 65535 < cl := by omega
                                  go_wp2
                                  go_ret2
                                  exact ⟨rfl, HF2.out⟩))

end Go.Proofs.YtkdmkpdooiacaaaDoor

namespace Go.Proofs.YtkdmkpdooiacaaaDoor
open Go.RowKit

theorem bytes_rd (w : World) (s : ByteArray) (hs : s.size ≤ 1000000) : RdF (Lib.bytesWorld w 5 s) (.slice (some ⟨w.heap.size, 0, none⟩) s.size (grownCap w s.size 0 5)) s.size (fun j => u8V (s.data.toList.getD j 0)) := by
  obtain ⟨hr, _⟩ := bytes_row w s
  refine .inr ⟨_, _, rfl, grownCap_ge _ _ _ _, grownCap_le_maxLen _ _ _ _ (by unfold maxLen; omega), fun j hj => ?_⟩
  have e : (⟨w.heap.size, 0, none⟩ : Addr).add j = ⟨w.heap.size, j, none⟩ := by unfold Addr.add; split <;> simp_all
  rw [e, hr.cell j hj]
  rfl

set_option maxHeartbeats 4000000 in
set_option maxRecDepth 100000 in
theorem sentRef_any (w : World) (a : Option Addr) (n c : Nat) (s : Nat → ByteArray) (hs : RdF w (.slice a n c) n (fun j => .string (s j))) (hss : ∀ j, j < n → (s j).size ≤ 255) (hn : n ≤ 1000) :
    Calls Tryd.prog 19 #[.slice a n c] w fun e w' => ∃ v', e = .returned v' ∧ OwnB w' w.heap.size v' (wireL s n ++ [0]) ∧ Fr [] w w' := by
  have HS := Lib.hid hs
  have HSS := Lib.hid hss
  clear hs hss
  go_enter Tryd.func19, Tryd.ntmps19
  go_wp2
  go_loopw [3, 4] (fun vo vi wr => ∃ k : Nat, k ≤ n ∧ vi = .int .i64 k ∧ OwnB wr w.heap.size vo (wireL s k) ∧ Fr [] w wr) (fun _ vi _ => n - (intOf vi).toNat)
  case atStart => exact ⟨0, by omega, rfl, by simpa [wireL] using OwnB.nil w w.heap.size, Fr.refl _ _⟩
  case round =>
    obtain ⟨k, hk, rfl, ho, hf⟩ := hrel
    have HO := Lib.hid ho
    have HF := Lib.hid hf
    have HLN := Lib.hid (show (wireL s k).length ≤ 1000 * 256 by
      have h1 := wireL_len s k 255 (fun j hj => HSS.out j (by omega))
      have h2 : k * (255 + 1) ≤ 1000 * 256 := Nat.mul_le_mul (by omega) (by omega)
      omega)
    by_cases hlt : k < n
    · obtain ⟨b1, o1, c1, he1, _, _, _, hc1⟩ := HS.out.shape (by omega)
      simp only [Value.slice.injEq, true_and] at he1
      obtain ⟨rfl, rfl⟩ := he1
      have HKW := Lib.hid (hc1 k hlt)
      have k1 := hf.cell HKW.out (by simp)
      clear hc1 ho hf
      have k0 : (0 : Int) ≤ (k : Int) := by omega
      have k3 : (k : Int) < (n : Int) := by omega
      have h1 := HSS.out k hlt
      have HWL := Lib.hid (show wireL s (k + 1) = (wireL s k ++ [UInt8.ofNat (s k).size]) ++ (s k).data.toList by simp [wireL])
      have HDL := Lib.hid (show (s k).data.toList.length = (s k).size from rfl)
      generalize wireL s k = M at *
      generalize s k = sk at *
      have HSZ := Lib.hid (show w.heap.size ≤ wr.heap.size from HF.out.size)
      go_wp2_with (
        at_builtin
        refine wpList_app rfl (.tmp 11) (.tmp 18) 35 rfl 5 infoU8 Tryd.underlying35 rfl (OwnF.alloc HO.out _) rfl (rd_one _ _ _ rfl) rfl (fun _ _ => rfl) (by unfold maxLen; have := HLN.out; omega) (by have := HLN.out; omega) (by simp; have := HSZ.out; omega) ?_
        intro v2 w2 hown2 hfr2 _
        have HO2 := Lib.hid (OwnB.more hown2 [UInt8.ofNat sk.size] rfl (fun j hj => by
          obtain rfl : j = 0 := by omega
          exact u8_of h1))
        have hf2 : Fr [] w w2 := (HF.out.alloc _).trans hfr2 (fun x hx => .inr (OwnF.ge HO.out x hx))
        have HF2 := Lib.hid hf2
        have k2 : w2.cell? ⟨b1, o1 + k, none⟩ = some (.string sk) := hf2.cell HKW.out (by simp)
        clear hown2 hfr2 hf2 k1
        have hcv := Go.Lib.run_convert_string_bytes (P := Tryd.prog) w2 9 35 5 sk Tryd.underlying9 Tryd.underlying35 Tryd.underlying5
        have HRB := Lib.hid (bytes_rd w2 sk (by omega))
        have HBF := Lib.hid (bytes_row w2 sk).2
        go_wp2_with (
          at_builtin
          refine wpList_app rfl (.tmp 20) (.tmp 25) 35 rfl 5 infoU8 Tryd.underlying35 rfl (OwnF.kept HO2.out HBF.out (fun _ _ => by simp)) rfl HRB.out rfl (fun _ _ => rfl) (by unfold maxLen; have := HLN.out; rw [List.length_append]; simp; omega) (by have := HLN.out; rw [List.length_append]; simp; omega) (by have := HF2.out.size; have := HBF.out.size; omega) ?_
          intro v3 w3 hown3 hfr3 _
          have HO3 := Lib.hid (OwnB.more hown3 sk.data.toList HDL.out (fun j hj => rfl))
          have HF3 := Lib.hid (show Fr [] w w3 from (HF2.out.trans HBF.out (by simp)).trans hfr3 (fun x hx => .inr (OwnF.ge HO2.out x hx)))
          clear hown3 hfr3))
      go_roundw
      case rel => exact ⟨k + 1, by omega, by go_num, by rw [HWL.out]; exact HO3.out, HF3.out⟩
      case measure => (simp [intOf] <;> omega)
    · obtain rfl : k = n := by omega
      clear ho hf
      go_wp2_with (
        at_builtin
        refine wpList_app rfl (.tmp 27) (.tmp 28) 35 rfl 5 infoU8 Tryd.underlying35 rfl (OwnF.alloc HO.out _) rfl (rd_one _ _ _ rfl) rfl (fun _ _ => rfl) (by unfold maxLen; have := HLN.out; omega) (by have := HLN.out; omega) (by simp; have := HF.out.size; omega) ?_
        intro v2 w2 hown2 hfr2 _
        have HO2 := Lib.hid (OwnB.more hown2 [0] rfl (fun j hj => by
          obtain rfl : j = 0 := by omega
          rfl))
        have HF2 := Lib.hid ((HF.out.alloc _).trans hfr2 (fun x hx => .inr (OwnF.ge HO.out x hx)))
        clear hown2 hfr2)
      go_ret
      exact ⟨_, rfl, HO2.out, HF2.out⟩

end Go.Proofs.YtkdmkpdooiacaaaDoor

namespace Go.Proofs.YtkdmkpdooiacaaaDoor

/-- a question of one label -/
def q1 (s : ByteArray) : Qs := ⟨1, fun _ => s, 1, 1⟩

theorem key_inj (s t : ByteArray) : keyL (q1 s) false false = keyL (q1 t) false false ↔ smB s = smB t := by
  constructor
  · intro h
    unfold keyL q1 at h
    simp only [wireL, List.nil_append] at h
    have h1 := List.append_cancel_right h
    have h2 := List.append_cancel_right h1
    have h3 := (List.cons.inj h2).2
    have h4 : (smB s).data = (smB t).data := by
      apply Array.ext'
      exact h3
    cases hs : smB s
    cases ht : smB t
    rw [hs, ht] at h4
    simp only at h4
    rw [h4]
  · intro h
    unfold keyL q1
    simp only [wireL, h]

end Go.Proofs.YtkdmkpdooiacaaaDoor
