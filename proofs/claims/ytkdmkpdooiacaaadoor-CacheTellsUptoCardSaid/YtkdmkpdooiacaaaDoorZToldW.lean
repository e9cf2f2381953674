/- cache.Told: the walk. -/
import Derived.Test.YtkdmkpdooiacaaaDoorZbase3
namespace Go.Proofs.YtkdmkpdooiacaaaDoor
open Go.RowKit

theorem three_new (w : World) (x y z : Obj) : (((w.alloc x).alloc y).alloc z).heap[w.heap.size]? = some x ∧ (((w.alloc x).alloc y).alloc z).heap[w.heap.size + 1]? = some y ∧ (((w.alloc x).alloc y).alloc z).heap[w.heap.size + 1 + 1]? = some z ∧ (((w.alloc x).alloc y).alloc z).heap.size = w.heap.size + 3 := by
  have s1 : (w.alloc x).heap.size = w.heap.size + 1 := by simp
  have s2 : ((w.alloc x).alloc y).heap.size = w.heap.size + 1 + 1 := by simp
  refine ⟨?_, ?_, ?_, by simp⟩
  · exact ((((Fr.refl [] _).alloc y).alloc z)).blk (heap_alloc_new w x) (by simp)
  · rw [← s1]; exact ((Fr.refl [] _).alloc z).blk (heap_alloc_new _ y) (by simp)
  · rw [← s2]; exact heap_alloc_new _ z

set_option maxHeartbeats 4000000 in
set_option maxRecDepth 100000 in
theorem told_any (w : World) (B : HB) (q m : Ms) (qq qa qu qm vq va vu vm : Value) (age : Int) (hq : MsOk B w q qq qa qu qm) (hm : MsOk B w m vq va vu vm) (hS : ∀ x ∈ B.s, x < w.heap.size) :
    Calls Tryd.prog 29 #[msgV q.h qq qa qu qm, msgV m.h vq va vu vm, .int .i64 age] w fun e w' =>
      ∃ vq' va' vu' vm', e = .returned (msgV (tolM q m age).h vq' va' vu' vm') ∧ MsOk B w' (tolM q m age) vq' va' vu' vm' ∧ Fr [] w w' := by
  obtain ⟨FQ, hQ⟩ := hq.hq
  obtain ⟨_, hq1⟩ := hq.ha
  obtain ⟨_, hq2⟩ := hq.hu
  obtain ⟨_, hq3⟩ := hq.hm
  obtain ⟨_, hm1⟩ := hm.hq
  obtain ⟨FA, hA⟩ := hm.ha
  obtain ⟨FU, hU⟩ := hm.hu
  obtain ⟨FM, hM⟩ := hm.hm
  obtain ⟨qb, qc, rfl⟩ := hQ.rd.slice
  obtain ⟨qb1, qc1, rfl⟩ := hq1.rd.slice
  obtain ⟨qb2, qc2, rfl⟩ := hq2.rd.slice
  obtain ⟨qb3, qc3, rfl⟩ := hq3.rd.slice
  obtain ⟨mb, mc, rfl⟩ := hm1.rd.slice
  obtain ⟨mb1, mc1, rfl⟩ := hA.rd.slice
  obtain ⟨mb2, mc2, rfl⟩ := hU.rd.slice
  obtain ⟨mb3, mc3, rfl⟩ := hM.rd.slice
  have HHH := Lib.hid hm.hh
  have HQH := Lib.hid hq.hh
  have HQ := Lib.hid hQ
  have HA := Lib.hid hA
  have HU := Lib.hid hU
  have HM := Lib.hid hM
  clear hq hm hQ hA hU hM hq1 hq2 hq3 hm1
  obtain ⟨⟨h0, h1, h2, h3, h4, h5, h6, h7, h8, h9, h10⟩, nq, Q, na, A, nu, U, nm, M⟩ := m
  obtain ⟨⟨g0, g1, g2, g3, g4, g5, g6, g7, g8, g9, g10⟩, pq, QQ, pa, PA, pu, PU, pm, PM⟩ := q
  simp only [msgV]
  simp only at HQ HA HU HM HHH HQH
  go_enter Tryd.func29, Tryd.ntmps29
  go_wp2_with fail
  have HW3 := Lib.hid (show Fr [] w (((w.alloc (.cells #[.int .i64 g0, .bool g1, .int .i64 g2, .bool g3, .bool g4, .bool g5, .bool g6, .bool g7, .bool g8, .bool g9, .int .i64 g10, .slice qb pq qc, .slice qb1 pa qc1, .slice qb2 pu qc2, .slice qb3 pm qc3] 43)).alloc
    (.cells #[.int .i64 h0, .bool h1, .int .i64 h2, .bool h3, .bool h4, .bool h5, .bool h6, .bool h7, .bool h8, .bool h9, .int .i64 h10, .slice mb nq mc, .slice mb1 na mc1, .slice mb2 nu mc2, .slice mb3 nm mc3] 43)).alloc
    (.cells #[.int .i64 0, .bool false, .int .i64 0, .bool false, .bool false, .bool false, .bool false, .bool false, .bool false, .bool false, .int .i64 0, .slice none 0 0, .slice none 0 0, .slice none 0 0, .slice none 0 0] 43)) from (((Fr.refl [] w).alloc _).alloc _).alloc _)
  obtain ⟨HB0, HB1, HB2, HBS⟩ := three_new w (.cells #[.int .i64 g0, .bool g1, .int .i64 g2, .bool g3, .bool g4, .bool g5, .bool g6, .bool g7, .bool g8, .bool g9, .int .i64 g10, .slice qb pq qc, .slice qb1 pa qc1, .slice qb2 pu qc2, .slice qb3 pm qc3] 43)
    (.cells #[.int .i64 h0, .bool h1, .int .i64 h2, .bool h3, .bool h4, .bool h5, .bool h6, .bool h7, .bool h8, .bool h9, .int .i64 h10, .slice mb nq mc, .slice mb1 na mc1, .slice mb2 nu mc2, .slice mb3 nm mc3] 43)
    (.cells #[.int .i64 0, .bool false, .int .i64 0, .bool false, .bool false, .bool false, .bool false, .bool false, .bool false, .bool false, .int .i64 0, .slice none 0 0, .slice none 0 0, .slice none 0 0, .slice none 0 0] 43)
  generalize ((w.alloc (.cells #[.int .i64 g0, .bool g1, .int .i64 g2, .bool g3, .bool g4, .bool g5, .bool g6, .bool g7, .bool g8, .bool g9, .int .i64 g10, .slice qb pq qc, .slice qb1 pa qc1, .slice qb2 pu qc2, .slice qb3 pm qc3] 43)).alloc
    (.cells #[.int .i64 h0, .bool h1, .int .i64 h2, .bool h3, .bool h4, .bool h5, .bool h6, .bool h7, .bool h8, .bool h9, .int .i64 h10, .slice mb nq mc, .slice mb1 na mc1, .slice mb2 nu mc2, .slice mb3 nm mc3] 43)).alloc
    (.cells #[.int .i64 0, .bool false, .int .i64 0, .bool false, .bool false, .bool false, .bool false, .bool false, .bool false, .bool false, .int .i64 0, .slice none 0 0, .slice none 0 0, .slice none 0 0, .slice none 0 0] 43) = W3 at *
  have c0 : W3.cell? ⟨w.heap.size, 0, none⟩ = some (.int .i64 g0) := blk_cell HB0 0 rfl
  have c5 : W3.cell? ⟨w.heap.size, 5, none⟩ = some (.bool g5) := blk_cell HB0 5 rfl
  have c11 : W3.cell? ⟨w.heap.size, 11, none⟩ = some (.slice qb pq qc) := blk_cell HB0 11 rfl
  have d0 : W3.cell? ⟨w.heap.size + 1, 0, none⟩ = some (.int .i64 h0) := blk_cell HB1 0 rfl
  have d5 : W3.cell? ⟨w.heap.size + 1, 5, none⟩ = some (.bool h5) := blk_cell HB1 5 rfl
  have d11 : W3.cell? ⟨w.heap.size + 1, 11, none⟩ = some (.slice mb nq mc) := blk_cell HB1 11 rfl
  have z0 := blk_frozen HB1 0
  have z5 := blk_frozen HB1 5
  have z11 := blk_frozen HB1 11
  have HB0 := Lib.hid HB0
  have HB1 := Lib.hid HB1
  have HB2 := Lib.hid HB2
  go_region_held3 (fun w' => w'.cell? ⟨w.heap.size, 0, none⟩ = some (.int .i64 g0) ∧ w'.cell? ⟨w.heap.size, 5, none⟩ = some (.bool g5)) (go_keep) (fail)
  have HF4 := Lib.hid (show Fr [w.heap.size + 1] W3 (((W3.setCell ⟨w.heap.size + 1, 0, none⟩ (.int .i64 g0)).setCell ⟨w.heap.size + 1, 5, none⟩ (.bool g5)).drew) from (((Fr.refl _ _).setCell (.inl (by simp)) _).setCell (.inl (by simp)) _).drew)
  have HC0 := Lib.hid (show (((W3.setCell ⟨w.heap.size + 1, 0, none⟩ (.int .i64 g0)).setCell ⟨w.heap.size + 1, 5, none⟩ (.bool g5)).drew).heap[w.heap.size]? = _ from blk_set_ne (blk_set_ne HB0.out (by omega) _) (by omega) _)
  have HC1 := Lib.hid (show (((W3.setCell ⟨w.heap.size + 1, 0, none⟩ (.int .i64 g0)).setCell ⟨w.heap.size + 1, 5, none⟩ (.bool g5)).drew).heap[w.heap.size + 1]? = some (.cells #[.int .i64 g0, .bool h1, .int .i64 h2, .bool h3, .bool h4, .bool g5, .bool h6, .bool h7, .bool h8, .bool h9, .int .i64 h10, .slice mb nq mc, .slice mb1 na mc1, .slice mb2 nu mc2, .slice mb3 nm mc3] 43 (0, 0)) from blk_setk (blk_setk HB1.out 0 _) 5 _)
  have HC2 := Lib.hid (show (((W3.setCell ⟨w.heap.size + 1, 0, none⟩ (.int .i64 g0)).setCell ⟨w.heap.size + 1, 5, none⟩ (.bool g5)).drew).heap[w.heap.size + 1 + 1]? = _ from blk_set_ne (blk_set_ne HB2.out (by omega) _) (by omega) _)
  generalize ((W3.setCell ⟨w.heap.size + 1, 0, none⟩ (.int .i64 g0)).setCell ⟨w.heap.size + 1, 5, none⟩ (.bool g5)).drew = W4 at *
  have HFW4 := Lib.hid (HW3.out.trans HF4.out (fun x hx => by simp only [List.mem_singleton] at hx; exact .inr (by omega)))
  clear c0 c5 c11 d0 d5 d11 z0 z5 z11 HB0 HB1 HB2 HF4 HW3
  have c11 : W4.cell? ⟨w.heap.size, 11, none⟩ = some (.slice qb pq qc) := blk_cell HC0.out 11 rfl
  have HCQ := Lib.hid (clone_ques W4 (.slice qb pq qc) pq FQ (HQ.out.rd.fr HFW4.out) HQ.out.one HQ.out.nb)
  go_wp2_with fail
  refine HCQ.out.mono ?_
  rintro e W5 ⟨v5, rfl, ho5, hf5⟩
  obtain ⟨a5, c5, rfl⟩ := ho5.rd.slice
  have HO5 := Lib.hid ho5
  have d0 : W5.cell? ⟨w.heap.size + 1, 11, none⟩ = some (.slice mb nq mc) := blk_cell (hf5.blk HC1.out (by simp)) 11 rfl
  have z11 : W5.frozen? ⟨w.heap.size + 1, 11, none⟩ = false := blk_frozen (hf5.blk HC1.out (by simp)) 11
  have HF6 := Lib.hid (show Fr [w.heap.size + 1] W5 (W5.setCell ⟨w.heap.size + 1, 11, none⟩ (.slice a5 pq c5)) from (Fr.refl _ _).setCell (.inl (by simp)) _)
  have HD1 := Lib.hid (show (W5.setCell ⟨w.heap.size + 1, 11, none⟩ (.slice a5 pq c5)).heap[w.heap.size + 1]? = some (.cells #[.int .i64 g0, .bool h1, .int .i64 h2, .bool h3, .bool h4, .bool g5, .bool h6, .bool h7, .bool h8, .bool h9, .int .i64 h10, .slice a5 pq c5, .slice mb1 na mc1, .slice mb2 nu mc2, .slice mb3 nm mc3] 43 (0, 0)) from blk_setk (hf5.blk HC1.out (by simp)) 11 _)
  have HD2 := Lib.hid (show (W5.setCell ⟨w.heap.size + 1, 11, none⟩ (.slice a5 pq c5)).heap[w.heap.size + 1 + 1]? = _ from blk_set_ne (hf5.blk HC2.out (by simp)) (by omega) _)
  have HFW6 := Lib.hid ((HFW4.out.trans hf5 (by simp)).trans HF6.out (fun x hx => by simp only [List.mem_singleton] at hx; exact .inr (by omega)))
  have HO6 := Lib.hid ((ho5.kept HF6.out (fun g hg => by
    have := ho5.ge g (by simp [hg])
    have h4 := lt_of_blk HC1.out
    simp
    omega)).mono (B' := w.heap.size) HFW4.out.size)
  clear ho5 hf5 HC0 HC1 HC2 HCQ HO5 c11
  go_wp2_with fail
  go_loopw [25] (fun vi wr => ∃ (k : Nat) (G : Nat → Nat → Value), k ≤ pq ∧ vi = .int .i64 k ∧
    TolLp w wr #[.int .i64 g0, .bool h1, .int .i64 h2, .bool h3, .bool h4, .bool g5, .bool h6, .bool h7, .bool h8, .bool h9, .int .i64 h10, .slice a5 pq c5, .slice mb1 na mc1, .slice mb2 nu mc2, .slice mb3 nm mc3] #[.int .i64 0, .bool false, .int .i64 0, .bool false, .bool false, .bool false, .bool false, .bool false, .bool false, .bool false, .int .i64 0, .slice none 0 0, .slice none 0 0, .slice none 0 0, .slice none 0 0] (.slice a5 pq c5) pq QQ FQ k G) (fun vi _ => pq - (intOf vi).toNat)
  case atStart => exact ⟨0, FQ, by omega, rfl, HD1.out, HD2.out, HO6.out, fun i hi => by omega, fun i _ _ => rfl, HFW6.out⟩
  case round =>
    clear HD1 HD2 HO6 HFW6 HF6 d0 z11
    obtain ⟨k, G, hk, rfl, hlp⟩ := hrel
    have HLP := Lib.hid hlp
    have hnb := HQ.out.nb
    by_cases hlt : k < pq
    · obtain ⟨g, cap, he, hgB, hrow⟩ := hlp.ho.row (by omega)
      simp only [Value.slice.injEq, true_and] at he
      obtain ⟨rfl, rfl⟩ := he
      clear hlp
      have hg1 : g ≠ w.heap.size + 1 := fun e => by
        subst e
        obtain ⟨cur, e1, _⟩ := hrow
        rw [HLP.out.b1] at e1
        simp at e1
      have hg2 : g ≠ w.heap.size + 1 + 1 := fun e => by
        subst e
        obtain ⟨cur, e1, _⟩ := hrow
        rw [HLP.out.b2] at e1
        simp at e1
      obtain ⟨qna, qnc, hF, hrn, hcd⟩ := HQ.out.at_ k hlt
      have hwf := HQ.out.wf k hlt
      have HROW := Lib.hid hrow
      have HG := Lib.hid (show G k = FQ k from HLP.out.hold k (Nat.le_refl _) hlt)
      have HF0 := Lib.hid (show FQ k 0 = .slice qna (QQ k).nl qnc from hF 0 (by decide))
      have HF1 := Lib.hid (show FQ k 1 = .int .i64 (QQ k).ty from hF 1 (by decide))
      have HF2 := Lib.hid (show FQ k 2 = .int .i64 (QQ k).cl from hF 2 (by decide))
      have HCEL := Lib.hid (fun (wx : World) (h : Fr [] wr wx) => show wx.cell? ⟨w.heap.size + 1, 11, none⟩ = some (.slice (some ⟨g, 0, none⟩) pq c5) ∧ wx.cell? ⟨g, k * 3, none⟩ = some (.slice qna (QQ k).nl qnc) ∧ wx.frozen? ⟨g, k * 3, none⟩ = false from
        ⟨blk_cell (h.blk HLP.out.b1 (by simp)) 11 rfl, by
          have e := (HROW.out.kept h (by simp)).cell k 0 hlt (by decide)
          rw [HG.out, HF0.out] at e
          exact e, (HROW.out.kept h (by simp)).frozen _⟩)
      have HCS := Lib.hid (fun (wx : World) (h : Fr [] w wx) => clone_strs wx (.slice qna (QQ k).nl qnc) (QQ k).nl (QQ k).nm (hrn.fr h (fun _ _ _ _ => by simp)) hwf.nlb)
      clear hF hrn hcd hwf hrow
      have HREL := Lib.hid (fun (wx : World) (vn : Value) (h : Fr [] wr wx) (hv : OwnF wx wr.heap.size 9 vn (QQ k).nl (fun j => .string ((QQ k).nm j))) =>
        show TolLp w (wx.setCell ⟨g, k * 3, none⟩ vn) #[.int .i64 g0, .bool h1, .int .i64 h2, .bool h3, .bool h4, .bool g5, .bool h6, .bool h7, .bool h8, .bool h9, .int .i64 h10, .slice (some ⟨g, 0, none⟩) pq c5, .slice mb1 na mc1, .slice mb2 nu mc2, .slice mb3 nm mc3] #[.int .i64 0, .bool false, .int .i64 0, .bool false, .bool false, .bool false, .bool false, .bool false, .bool false, .bool false, .int .i64 0, .slice none 0 0, .slice none 0 0, .slice none 0 0, .slice none 0 0] (.slice (some ⟨g, 0, none⟩) pq c5) pq QQ FQ (k + 1) (fun i' c' => if i' = k ∧ c' = 0 then vn else G i' c') from by
        have hfs : Fr [g] wx (wx.setCell ⟨g, k * 3, none⟩ vn) := (Fr.refl _ _).setCell (.inl (by simp)) _
        obtain ⟨cur, ecur, _⟩ := HROW.out
        refine ⟨blk_set_ne (h.blk HLP.out.b1 (by simp)) (Ne.symm hg1) _, blk_set_ne (h.blk HLP.out.b2 (by simp)) (Ne.symm hg2) _, (HLP.out.ho.kept h (fun _ _ => by simp)).stored k 0 hlt (by decide) vn rfl, fun i hi => ?_, fun i h1 h2 => ?_, (HLP.out.hf.trans h (by simp)).trans hfs (fun x hx => by simp only [List.mem_singleton] at hx; exact .inr (by omega))⟩
        · by_cases hik : i = k
          · subst hik
            refine ⟨vn, if_pos ⟨rfl, rfl⟩, (if_neg (by simp)).trans (by rw [HG.out]; exact HF1.out), (if_neg (by simp)).trans (by rw [HG.out]; exact HF2.out), ((hv.mono HLP.out.hf.size).kept hfs ?_)⟩
            exact hv.ne_blk (h.blk ecur (by simp)) (by decide)
          · have e : (fun c' => if i = k ∧ c' = 0 then vn else G i c') = G i := by
              funext c'
              rw [if_neg (fun ⟨e, _⟩ => hik e)]
            have := ((HLP.out.hown i (by omega)).kept h (by simp)).kept hfs (fun b hb => by
              simp only [List.mem_singleton] at hb
              subst hb
              exact ⟨_, _, h.blk ecur (by simp), by decide⟩)
            show QsOwn _ _ (fun c' => if i = k ∧ c' = 0 then vn else G i c') _
            rw [e]
            exact this
        · have e : (fun c' => if i = k ∧ c' = 0 then vn else G i c') = G i := by
            funext c'
            rw [if_neg (fun ⟨e, _⟩ => by omega)]
          show (fun c' => if i = k ∧ c' = 0 then vn else G i c') = _
          rw [e]
          exact HLP.out.hold i (by omega) h2)
      have HFRW := Lib.hid HLP.out.hf
      clear HROW HG HF0 HF1 HF2 HLP hg1 hg2
      have k0 : (0 : Int) ≤ (k : Int) := by omega
      have k9 : (k : Int) < (pq : Int) := by omega
      go_upto_region 6 with fail
      have FD0 : Fr [] wr wr.drew := (Fr.refl [] wr).drew
      obtain ⟨x1, x2, x3⟩ := HCEL.out _ FD0
      go_region_with
          (first
            | (go_at_call 53; (with_reducible refine (HCS.out _ (HFRW.out.trans FD0 (by simp))).mono ?_); rintro e5 wx1 ⟨v', rfl, hov1, hfx1⟩; have hA1 : Fr [] wr wx1 := FD0.trans hfx1 (by simp); obtain ⟨y1, y2, y3⟩ := HCEL.out _ hA1; obtain ⟨a6, c6, rfl⟩ := hov1.rd.slice)
            | fail)
      all_goals go_wp2_with fail
      all_goals go_roundw
      all_goals first
        | exact ⟨k + 1, _, by omega, by go_num, HREL.out _ _ hA1 hov1⟩
        | (simp [intOf]; omega)
    · obtain rfl : k = pq := by omega
      have HQO := Lib.hid (show QSecOwn wr w.heap.size (.slice a5 k c5) k QQ G from ⟨hlp.ho, hlp.hown⟩)
      have HB1 := Lib.hid hlp.b1
      have HB2 := Lib.hid hlp.b2
      have HFR := Lib.hid hlp.hf
      clear hlp HLP
      have HCEL := Lib.hid (fun (wx : World) (h : Fr [] wr wx) => show (wx.cell? ⟨w.heap.size + 1, 12, none⟩ = some (.slice mb1 na mc1) ∧ wx.cell? ⟨w.heap.size + 1, 13, none⟩ = some (.slice mb2 nu mc2) ∧ wx.cell? ⟨w.heap.size + 1, 14, none⟩ = some (.slice mb3 nm mc3)) ∧ wx.frozen? ⟨w.heap.size + 1, 12, none⟩ = false ∧ wx.frozen? ⟨w.heap.size + 1, 13, none⟩ = false ∧ wx.frozen? ⟨w.heap.size + 1, 14, none⟩ = false from
        ⟨⟨blk_cell (h.blk HB1.out (by simp)) 12 rfl, blk_cell (h.blk HB1.out (by simp)) 13 rfl, blk_cell (h.blk HB1.out (by simp)) 14 rfl⟩, blk_frozen (h.blk HB1.out (by simp)) 12, blk_frozen (h.blk HB1.out (by simp)) 13, blk_frozen (h.blk HB1.out (by simp)) 14⟩)
      have HCA := Lib.hid (fun (wx : World) (h : Fr [] w wx) => aged_any wx B mb1 na mc1 A FA age false (HA.out.frH (h.hot0 B)))
      have HCU := Lib.hid (fun (wx : World) (h : Fr [] w wx) => aged_any wx B mb2 nu mc2 U FU age false (HU.out.frH (h.hot0 B)))
      have HCM := Lib.hid (fun (wx : World) (h : Fr [] w wx) => aged_any wx B mb3 nm mc3 M FM age true (HM.out.frH (h.hot0 B)))
      have HEND := Lib.hid (fun (wA wU wM : World) (a7 a8 a9 : Option Addr) (c7 c8 c9 : Nat) (GA GU GM : Nat → Nat → Value) (fA : Fr [] w wA) (f0 : Fr [] wr wA) (sA : SecOwn wA w.heap.size (.slice a7 na c7) na (fun i => agR age false (A i)) GA) (fU : Fr [] wA wU) (sU : SecOwn wU w.heap.size (.slice a8 nu c8) nu (fun i => agR age false (U i)) GU) (fM : Fr [] wU wM) (sM : SecOwn wM w.heap.size (.slice a9 nm c9) nm (fun i => agR age true (M i)) GM) =>
        show TolPost w (((wM.setCell ⟨w.heap.size + 1, 12, none⟩ (.slice a7 na c7)).setCell ⟨w.heap.size + 1, 13, none⟩ (.slice a8 nu c8)).setCell ⟨w.heap.size + 1, 14, none⟩ (.slice a9 nm c9)) ⟨g0, h1, h2, h3, h4, g5, h6, h7, h8, h9, h10⟩ (.slice a5 k c5) k na nu nm QQ A U M age G from by
        have f3 := (f0.trans fU (by simp)).trans fM (by simp)
        have hb := f3.blk HB1.out (by simp)
        have hfs : Fr [w.heap.size + 1] wM (((wM.setCell ⟨w.heap.size + 1, 12, none⟩ (.slice a7 na c7)).setCell ⟨w.heap.size + 1, 13, none⟩ (.slice a8 nu c8)).setCell ⟨w.heap.size + 1, 14, none⟩ (.slice a9 nm c9)) := (((Fr.refl _ _).setCell (.inl (by simp)) _).setCell (.inl (by simp)) _).setCell (.inl (by simp)) _
        exact ⟨a7, a8, a9, c7, c8, c9, GA, GU, GM, blk_setk (blk_setk (blk_setk hb 12 _) 13 _) 14 _, blk_set_ne (blk_set_ne (blk_set_ne (f3.blk HB2.out (by simp)) (by omega) _) (by omega) _) (by omega) _,
          ((sA.fr0 fU).fr0 fM).keptM hfs hb, (sU.fr0 fM).keptM hfs hb, sM.keptM hfs hb, (HQO.out.fr0 f3).keptM hfs hb, (HFR.out.trans f3 (by simp)).trans hfs (fun x hx => by simp only [List.mem_singleton] at hx; exact .inr (by omega))⟩)
      go_upto_region 8 with fail
      go_cut [] (fun wx => TolPost w wx ⟨g0, h1, h2, h3, h4, g5, h6, h7, h8, h9, h10⟩ (.slice a5 k c5) k na nu nm QQ A U M age G)
      case first =>
        clear HQ HA HU HM HHH HQH HB1 HB2 HQO
        have FD0 : Fr [] wr wr.drew := (Fr.refl [] wr).drew
        obtain ⟨⟨x1, x2, x3⟩, x4, x5, x6⟩ := HCEL.out _ FD0
        go_region_with
          (first
            | (go_at_call 54; (with_reducible refine (HCA.out _ (HFR.out.trans FD0 (by simp))).mono ?_); rintro e5 wA ⟨v', GA, rfl, hoA, hwA, hfA⟩; have f0 : Fr [] wr wA := FD0.trans hfA (by simp); obtain ⟨⟨y1, y2, y3⟩, y4, y5, y6⟩ := HCEL.out _ f0; obtain ⟨a7, c7, rfl⟩ := hoA.rd.slice; have sA := SecOwn.mono ⟨hoA, hwA⟩ (HFR.out.trans FD0 (by simp)).size)
            | (go_at_call 54; (with_reducible refine (HCU.out _ (HFR.out.trans (by assumption : Fr [] wr _) (by simp))).mono ?_); rintro e5 wU ⟨v', GU, rfl, hoU, hwU, hfU⟩; have fU0 : Fr [] wr wU := Fr.trans (by assumption : Fr [] wr _) hfU (by simp); obtain ⟨⟨y1, y2, y3⟩, y4, y5, y6⟩ := HCEL.out _ fU0; obtain ⟨a8, c8, rfl⟩ := hoU.rd.slice; have sU := SecOwn.mono ⟨hoU, hwU⟩ (HFR.out.trans (by assumption : Fr [] wr _) (by simp)).size)
            | (go_at_call 54; (with_reducible refine (HCM.out _ (HFR.out.trans (by assumption : Fr [] wr _) (by simp))).mono ?_); rintro e5 wM ⟨v', GM, rfl, hoM, hwM, hfM⟩; have fM0 : Fr [] wr wM := Fr.trans (by assumption : Fr [] wr _) hfM (by simp); obtain ⟨⟨y1, y2, y3⟩, y4, y5, y6⟩ := HCEL.out _ fM0; obtain ⟨a9, c9, rfl⟩ := hoM.rd.slice; have sM := SecOwn.mono ⟨hoM, hwM⟩ (HFR.out.trans (by assumption : Fr [] wr _) (by simp)).size)
            | fail)
        all_goals go_wp2_with fail
        all_goals go_meet
        all_goals exact HEND.out _ _ _ _ _ _ _ _ _ _ _ _ (HFR.out.trans f0 (by simp)) f0 sA hfU sU hfM sM
      case rest =>
        obtain ⟨a7, a8, a9, c7, c8, c9, GA, GU, GM, hb1, hb2, sA, sU, sM, sQ, hfc⟩ := hcut
        have HSA := Lib.hid sA
        have HSU := Lib.hid sU
        have HSM := Lib.hid sM
        have HSQ := Lib.hid sQ
        have HFC := Lib.hid hfc
        have HBB := Lib.hid hb2
        unfold msgCs at hb1
        obtain ⟨m0, m1, m2, m3, m4, m5, m6, m7, m8, m9, m10, m11, m12, m13, m14⟩ := msg_cells (h := ⟨g0, h1, h2, h3, h4, g5, h6, h7, h8, h9, h10⟩) hb1
        obtain ⟨n0, n1, n2, n3, n4, n5, n6, n7, n8, n9, n10, n11, n12, n13, n14⟩ := msg_cells (h := ⟨0, false, 0, false, false, false, false, false, false, false, 0⟩) hb2
        have hz : ∀ j, wc.frozen? ⟨w.heap.size + 1 + 1, j, none⟩ = false := fun j => blk_frozen hb2 j
        clear sA sU sM sQ hfc hb1 hb2 HEND HCEL HCA HCU HCM HB1 HB2 HQO HFR
        go_wp2_with fail
        have HBF := Lib.hid (setCells_all (w := wc) (p := w.heap.size + 1 + 1) [.int .i64 g0, .bool h1, .int .i64 h2, .bool h3, .bool h4, .bool g5, .bool h6, .bool h7, .bool h8, .bool h9, .int .i64 h10, .slice a5 k c5, .slice a7 na c7, .slice a8 nu c8, .slice a9 nm c9] HBB.out rfl)
        have HFF := Lib.hid (setCells_fr (p := w.heap.size + 1 + 1) [.int .i64 g0, .bool h1, .int .i64 h2, .bool h3, .bool h4, .bool g5, .bool h6, .bool h7, .bool h8, .bool h9, .int .i64 h10, .slice a5 k c5, .slice a7 na c7, .slice a8 nu c8, .slice a9 nm c9] 0 wc)
        change bodyPost _ _ _ _ _ (wc.setCells (w.heap.size + 1 + 1) 0 [.int .i64 g0, .bool h1, .int .i64 h2, .bool h3, .bool h4, .bool g5, .bool h6, .bool h7, .bool h8, .bool h9, .int .i64 h10, .slice a5 k c5, .slice a7 na c7, .slice a8 nu c8, .slice a9 nm c9])
        generalize wc.setCells (w.heap.size + 1 + 1) 0 [.int .i64 g0, .bool h1, .int .i64 h2, .bool h3, .bool h4, .bool g5, .bool h6, .bool h7, .bool h8, .bool h9, .int .i64 h10, .slice a5 k c5, .slice a7 na c7, .slice a8 nu c8, .slice a9 nm c9] = wF at *
        obtain ⟨r0, r1, r2, r3, r4, r5, r6, r7, r8, r9, r10, r11, r12, r13, r14⟩ := msg_cells (h := ⟨g0, h1, h2, h3, h4, g5, h6, h7, h8, h9, h10⟩) HBF.out
        refine bodyPost_ret (v := .agg #[.int .i64 g0, .bool h1, .int .i64 h2, .bool h3, .bool h4, .bool g5, .bool h6, .bool h7, .bool h8, .bool h9, .int .i64 h10, .slice a5 k c5, .slice a7 na c7, .slice a8 nu c8, .slice a9 nm c9]) (by simp [results, Tryd.results29, go_sem, r0, r1, r2, r3, r4, r5, r6, r7, r8, r9, r10, r11, r12, r13, r14]) rfl ?_
        exact ⟨_, _, _, _, rfl, ⟨⟨_, (HSQ.out.keptM HFF.out HBB.out).sec HQ.out.wf HQ.out.nb hS⟩, ⟨_, (HSA.out.keptM HFF.out HBB.out).sec (fun i hi => agR_wf (HA.out.wf i hi) age false) HA.out.nb hS⟩, ⟨_, (HSU.out.keptM HFF.out HBB.out).sec (fun i hi => agR_wf (HU.out.wf i hi) age false) HU.out.nb hS⟩, ⟨_, (HSM.out.keptM HFF.out HBB.out).sec (fun i hi => agR_wf (HM.out.wf i hi) age true) HM.out.nb hS⟩, ⟨HQH.out.id0, HHH.out.op0, HHH.out.code0⟩⟩, HFC.out.trans HFF.out (fun x hx => by simp only [List.mem_singleton] at hx; exact .inr (by omega))⟩

end Go.Proofs.YtkdmkpdooiacaaaDoor
