/- The reference's Asks: have two messages one question, the same? -/
import Derived.Test.YtkdmkpdooiacaaaDoorZbase2
import Derived.Test.YtkdmkpdooiacaaaDoorZRefNames
namespace Go.Proofs.YtkdmkpdooiacaaaDoor
open Go.RowKit

set_option maxHeartbeats 4000000 in
set_option maxRecDepth 100000 in
theorem asks_any (w : World) (B : HB) (q a : Ms) (vq va vu vm xq xa xu xm : Value) (hq : MsOk B w q vq va vu vm) (ha : MsOk B w a xq xa xu xm) :
    Calls Tryd.prog 23 #[msgV q.h vq va vu vm, msgV a.h xq xa xu xm] w fun e w' => e = .returned (.bool (alikeF q a)) ∧ Fr [] w w' := by
  obtain ⟨F, hQ⟩ := hq.hq
  obtain ⟨G, hA⟩ := ha.hq
  obtain ⟨qb, qc, rfl⟩ := hQ.rd.slice
  obtain ⟨ab, ac, rfl⟩ := hA.rd.slice
  have hnq := hQ.nb
  have hna := hA.nb
  have HF := Lib.hid (show alikeF q a = (decide (q.qn = 1) && (decide (a.qn = 1) && qsEq (q.Q 0) (a.Q 0))) from rfl)
  clear hq ha
  obtain ⟨h, nq, Q, an, A, un, U, mn, M⟩ := q
  obtain ⟨g, na, P, an', A', un', U', mn', M'⟩ := a
  simp only at *
  by_cases h1 : nq = 1
  case neg =>
    have hb : ((nq : Int) != 1) = true := by simp; omega
    have HE := Lib.hid (HF.out.trans (by simp [h1] : _ = false))
    unfold msgV
    clear hQ hA HF h1
    go_enter Tryd.func23, Tryd.ntmps23
    go_wp2
    go_ret
    exact ⟨by rw [HE.out]; rfl, ((Fr.refl [] w).alloc _).alloc _⟩
  subst h1
  by_cases h2 : na = 1
  case neg =>
    have hb : ((na : Int) != 1) = true := by simp; omega
    have HE := Lib.hid (HF.out.trans (by simp [h2] : _ = false))
    unfold msgV
    clear hQ hA HF h2
    go_enter Tryd.func23, Tryd.ntmps23
    go_wp2
    go_ret
    exact ⟨by rw [HE.out]; rfl, ((Fr.refl [] w).alloc _).alloc _⟩
  subst h2
  obtain ⟨b1, o1, c1, he1, _, _, hb1, hc1⟩ := hQ.rd.shape (by decide) (by decide)
  simp only [Value.slice.injEq, true_and] at he1
  obtain ⟨rfl, rfl⟩ := he1
  obtain ⟨b2, o2, c2, he2, _, _, hb2, hc2⟩ := hA.rd.shape (by decide) (by decide)
  simp only [Value.slice.injEq, true_and] at he2
  obtain ⟨rfl, rfl⟩ := he2
  obtain ⟨n1, m1, hF1, hr1, _⟩ := hQ.at_ 0 (by decide)
  obtain ⟨n2, m2, hF2, hr2, _⟩ := hA.at_ 0 (by decide)
  have hw1 := hQ.wf 0 (by decide)
  have hw2 := hA.wf 0 (by decide)
  have HCEL := Lib.hid (fun (wx : World) (h : Fr [] w wx) => show (wx.cell? ⟨b1, o1, none⟩ = some (.slice n1 (Q 0).nl m1) ∧ wx.cell? ⟨b1, o1 + 1, none⟩ = some (.int .i64 (Q 0).ty) ∧ wx.cell? ⟨b1, o1 + 2, none⟩ = some (.int .i64 (Q 0).cl)) ∧ wx.cell? ⟨b2, o2, none⟩ = some (.slice n2 (P 0).nl m2) ∧ wx.cell? ⟨b2, o2 + 1, none⟩ = some (.int .i64 (P 0).ty) ∧ wx.cell? ⟨b2, o2 + 2, none⟩ = some (.int .i64 (P 0).cl) from by
    have e1 := hc1 0 0 (by decide) (by decide)
    have e2 := hc1 0 1 (by decide) (by decide)
    have e3 := hc1 0 2 (by decide) (by decide)
    have e4 := hc2 0 0 (by decide) (by decide)
    have e5 := hc2 0 1 (by decide) (by decide)
    have e6 := hc2 0 2 (by decide) (by decide)
    rw [hF1 0 (by decide)] at e1
    rw [hF1 1 (by decide)] at e2
    rw [hF1 2 (by decide)] at e3
    rw [hF2 0 (by decide)] at e4
    rw [hF2 1 (by decide)] at e5
    rw [hF2 2 (by decide)] at e6
    simp only [Qs.F, Nat.add_zero, Nat.zero_mul] at e1 e2 e3 e4 e5 e6
    exact ⟨⟨h.cell e1 (by simp), h.cell e2 (by simp), h.cell e3 (by simp)⟩, h.cell e4 (by simp), h.cell e5 (by simp), h.cell e6 (by simp)⟩)
  have HS := Lib.hid (fun (wx : World) (h : Fr [] w wx) => namesRef_any wx n1 n2 (Q 0).nl (P 0).nl m1 m2 (Q 0).nm (P 0).nm (hr1.fr h (fun _ _ _ _ => by simp)) (hr2.fr h (fun _ _ _ _ => by simp)) hw1.nms hw2.nms (by have := hw2.nlb; omega))
  have HE := Lib.hid (show alikeF ⟨h, 1, Q, an, A, un, U, mn, M⟩ ⟨g, 1, P, an', A', un', U', mn', M'⟩ = (decide ((Q 0).ty = (P 0).ty) && (decide ((Q 0).cl = (P 0).cl) && nmEq (Q 0).nl (P 0).nl (Q 0).nm (P 0).nm)) from rfl)
  clear HF hQ hA hc1 hc2 hF1 hF2 hr1 hr2 hw1 hw2
  generalize alikeF ⟨h, 1, Q, an, A, un, U, mn, M⟩ ⟨g, 1, P, an', A', un', U', mn', M'⟩ = res at *
  generalize Q 0 = x at *
  generalize P 0 = y at *
  obtain ⟨i0, i1, i2, i3, i4, i5, i6, i7, i8, i9, i10⟩ := h
  obtain ⟨j0, j1, j2, j3, j4, j5, j6, j7, j8, j9, j10⟩ := g
  simp only [msgV]
  go_enter Tryd.func23, Tryd.ntmps23
  go_upto_region 3 with fail
  have HW2 := Lib.hid (show Fr [] w ((w.alloc (.cells #[.int .i64 i0, .bool i1, .int .i64 i2, .bool i3, .bool i4, .bool i5, .bool i6, .bool i7, .bool i8, .bool i9, .int .i64 i10, .slice (some ⟨b1, o1, none⟩) 1 qc, va, vu, vm] 43)).alloc (.cells #[.int .i64 j0, .bool j1, .int .i64 j2, .bool j3, .bool j4, .bool j5, .bool j6, .bool j7, .bool j8, .bool j9, .int .i64 j10, .slice (some ⟨b2, o2, none⟩) 1 ac, xa, xu, xm] 43)) from ((Fr.refl [] w).alloc _).alloc _)
  obtain ⟨hb0, hb1', hbs⟩ := two_new w (.cells #[.int .i64 i0, .bool i1, .int .i64 i2, .bool i3, .bool i4, .bool i5, .bool i6, .bool i7, .bool i8, .bool i9, .int .i64 i10, .slice (some ⟨b1, o1, none⟩) 1 qc, va, vu, vm] 43) (.cells #[.int .i64 j0, .bool j1, .int .i64 j2, .bool j3, .bool j4, .bool j5, .bool j6, .bool j7, .bool j8, .bool j9, .int .i64 j10, .slice (some ⟨b2, o2, none⟩) 1 ac, xa, xu, xm] 43)
  have HB0 := Lib.hid hb0
  have HB1 := Lib.hid hb1'
  clear hb0 hb1' hbs
  generalize (w.alloc (.cells #[.int .i64 i0, .bool i1, .int .i64 i2, .bool i3, .bool i4, .bool i5, .bool i6, .bool i7, .bool i8, .bool i9, .int .i64 i10, .slice (some ⟨b1, o1, none⟩) 1 qc, va, vu, vm] 43)).alloc (.cells #[.int .i64 j0, .bool j1, .int .i64 j2, .bool j3, .bool j4, .bool j5, .bool j6, .bool j7, .bool j8, .bool j9, .int .i64 j10, .slice (some ⟨b2, o2, none⟩) 1 ac, xa, xu, xm] 43) = W2 at *
  have HSF := Lib.hid (fun (wx : World) (h : Fr [] W2 wx) => show (wx.cell? ⟨w.heap.size, 11, none⟩ = some (.slice (some ⟨b1, o1, none⟩) 1 qc) ∧ wx.cell? ⟨w.heap.size + 1, 11, none⟩ = some (.slice (some ⟨b2, o2, none⟩) 1 ac)) ∧ (wx.cell? ⟨b1, o1, none⟩ = some (.slice n1 x.nl m1) ∧ wx.cell? ⟨b1, o1 + 1, none⟩ = some (.int .i64 x.ty) ∧ wx.cell? ⟨b1, o1 + 2, none⟩ = some (.int .i64 x.cl)) ∧ wx.cell? ⟨b2, o2, none⟩ = some (.slice n2 y.nl m2) ∧ wx.cell? ⟨b2, o2 + 1, none⟩ = some (.int .i64 y.ty) ∧ wx.cell? ⟨b2, o2 + 2, none⟩ = some (.int .i64 y.cl) from
    ⟨⟨blk_cell (h.blk HB0.out (by simp)) 11 rfl, blk_cell (h.blk HB1.out (by simp)) 11 rfl⟩, HCEL.out wx (HW2.out.trans h (by simp))⟩)
  obtain ⟨⟨u1, u2⟩, ⟨e1, e2, e3⟩, e4, e5, e6⟩ := HSF.out W2 (Fr.refl _ _)
  go_upto_region 4 with fail
  clear u1 u2 e1 e2 e3 e4 e5 e6
  have HX := Lib.hid (heap_alloc_new W2 (.cells #[.slice n1 x.nl m1, .int .i64 x.ty, .int .i64 x.cl] 58))
  have HW3 := Lib.hid (show Fr [] W2 (W2.alloc (.cells #[.slice n1 x.nl m1, .int .i64 x.ty, .int .i64 x.cl] 58)) from (Fr.refl [] W2).alloc _)
  generalize W2.alloc (.cells #[.slice n1 x.nl m1, .int .i64 x.ty, .int .i64 x.cl] 58) = W3 at *
  generalize W2.heap.size = bx at *
  obtain ⟨⟨u1, u2⟩, ⟨e1, e2, e3⟩, e4, e5, e6⟩ := HSF.out W3 HW3.out
  go_upto_region 5 with fail
  clear u1 u2 e1 e2 e3 e4 e5 e6
  have HY := Lib.hid (heap_alloc_new W3 (.cells #[.slice n2 y.nl m2, .int .i64 y.ty, .int .i64 y.cl] 58))
  have hw4 : Fr [] W3 (W3.alloc (.cells #[.slice n2 y.nl m2, .int .i64 y.ty, .int .i64 y.cl] 58)) := (Fr.refl [] W3).alloc _
  have HX4 := Lib.hid (hw4.blk HX.out (by simp))
  have HFC := Lib.hid (HW2.out.trans (HW3.out.trans hw4 (by simp)) (by simp))
  clear hw4 HX HW3
  generalize W3.alloc (.cells #[.slice n2 y.nl m2, .int .i64 y.ty, .int .i64 y.cl] 58) = W4 at *
  generalize W3.heap.size = b' at *
  have x0 := blk_cell HX4.out 0 (v := .slice n1 x.nl m1) rfl
  have x1 := blk_cell HX4.out 1 (v := .int .i64 x.ty) rfl
  have x2 := blk_cell HX4.out 2 (v := .int .i64 x.cl) rfl
  have y0 := blk_cell HY.out 0 (v := .slice n2 y.nl m2) rfl
  have y1 := blk_cell HY.out 1 (v := .int .i64 y.ty) rfl
  have y2 := blk_cell HY.out 2 (v := .int .i64 y.cl) rfl
  clear HSF HB0 HB1 HCEL HX4 HY
  by_cases t1 : x.ty = y.ty
  · by_cases t2 : x.cl = y.cl
    · have HR := Lib.hid (show res = nmEq x.nl y.nl x.nm y.nm by rw [HE.out, decide_eq_true t1, decide_eq_true t2]; rfl)
      have d1 : (x.ty == y.ty) = true := by simp [t1]
      have d2 : (x.cl == y.cl) = true := by simp [t2]
      clear t1 t2
      by_cases hn : nmEq x.nl y.nl x.nm y.nm = true
      · have HN := Lib.hid (HR.out.trans hn)
        go_wp2_with (go_at_call 46; refine (HS.out _ HFC.out).mono ?_; rintro e w5 ⟨r, rfl, hr, hf5⟩; have hr0 := hr.2 hn; subst hr0; clear hr)
        go_ret
        exact ⟨by rw [HN.out]; rfl, HFC.out.trans hf5 (by simp)⟩
      · have HN := Lib.hid (HR.out.trans (by simpa using hn : _ = false))
        have HNN := Lib.hid hn
        clear hn
        go_wp2_with fail
        refine (HS.out _ HFC.out).mono ?_
        rintro e w5 ⟨r, rfl, hr, hf5⟩
        have hr1 : r ≠ 0 := fun h => HNN.out (hr.1 h)
        have hr0 : (r == 0) = false := by simpa using hr1
        clear hr
        go_wp2
        go_ret
        exact ⟨by rw [HN.out]; rfl, HFC.out.trans hf5 (by simp)⟩
    · have HR := Lib.hid (show res = false by rw [HE.out, decide_eq_false t2]; simp)
      have d1 : (x.ty == y.ty) = true := by simp [t1]
      have d2 : (x.cl == y.cl) = false := by simp [t2]
      clear t1 t2
      go_wp2
      go_ret
      exact ⟨by rw [HR.out]; rfl, HFC.out⟩
  · have HR := Lib.hid (show res = false by rw [HE.out, decide_eq_false t1]; simp)
    have d1 : (x.ty == y.ty) = false := by simp [t1]
    clear t1
    go_wp2
    go_ret
    exact ⟨by rw [HR.out]; rfl, HFC.out⟩

theorem alk_symm (s t : ByteArray) : alk s t = alk t s := by unfold alk; rw [Bool.eq_iff_iff]; simp; exact eq_comm

theorem alkUpTo_symm (s t : Nat → ByteArray) (n : Nat) : alkUpTo s t n = alkUpTo t s n := by
  induction n with
  | zero => rfl
  | succ n ih => simp only [alkUpTo, ih, alk_symm (s n) (t n)]

theorem alikeF_symm (a q : Ms) : alikeF a q = alikeF q a := by
  unfold alikeF qsEq nmEq
  by_cases h1 : a.qn = 1 <;> by_cases h2 : q.qn = 1 <;> simp [h1, h2]
  by_cases h3 : (a.Q 0).ty = (q.Q 0).ty <;> by_cases h4 : (a.Q 0).cl = (q.Q 0).cl <;> by_cases h5 : (a.Q 0).nl = (q.Q 0).nl
  all_goals simp [h3, h4, h5, eq_comm]
  all_goals (first | (rw [alkUpTo_symm]) | skip)

end Go.Proofs.YtkdmkpdooiacaaaDoor
