/- node.holds, walked. -/
import Derived.Test.YtgpfkaiinbncnaaDoorHoldsAnd
namespace Go.Proofs.YtgpfkaiinbncnaaDoor
open Go.RowKit

theorem NRep.kept {W w w' : World} {D : Nat → Prop} {q : Qt} {m : Mt} {v : Value} {b : Bool} {S : List Nat} (h : NRep W w D q m v b) (hf : Fr S w w') (hS : ∀ g, D g → g ∉ S) : NRep W w' D q m v b := by
  induction h with
  | mk ms vs bs hm h1 hD hr hc ih =>
    refine .mk ms vs bs hm h1 hD (hr.frs (by decide) hf ?_) ih
    intro b o c _ he
    simp only [Value.slice.injEq] at he
    obtain ⟨rfl, _, _⟩ := he
    exact hS b (hD b rfl)

theorem NRep.mono {W w : World} {D D' : Nat → Prop} {q : Qt} {m : Mt} {v : Value} {b : Bool} (h : NRep W w D q m v b) (hS : ∀ g, D g → D' g) : NRep W w D' q m v b := by
  induction h with
  | mk ms vs bs hm h1 hD hr hc ih => exact .mk ms vs bs hm h1 (fun g hg => hS g (hD g hg)) hr ih

set_option maxHeartbeats 8000000 in
set_option maxRecDepth 100000 in
theorem holds_any {W w : World} {D : Nat → Prop} {q : Qt} {m : Mt} {v : Value} {b : Bool} (hB : Below W.heap.size W w) (hq : q.Ok W) (h : NRep W w D q m v b) :
    ∀ w2, Fr [] w w2 → Calls Tryd.prog 79 #[ndAgg m v, q.agg] w2 (hdPost w2 b) := by
  induction h with
  | @mk m a c ms vs bs hm h1 hD hr hc ih =>
    intro w2 hf2
    have hm2 : m.Ok w2 := (hm.below hB).fr hf2
    have hq2 : q.Ok w2 := (hq.below hB).fr hf2
    have hr2 := hr.fr hf2
    clear hD hc
    obtain ⟨n1, n2, n3⟩ := n1_zero h1
    clear h1 hr hm
    obtain ⟨op, k, na, nl, nc, nm, aa, al, ac, ad⟩ := m
    obtain ⟨qna, qnl, qnc, qnm, ty, cl, opc, rd, fa, fl, fc, ff⟩ := q
    simp only at n1 n2 n3 hr2 ih ⊢
    have HM := Lib.hid hm2; clear hm2
    have HQ := Lib.hid hq2; clear hq2
    have hal := HM.out.rda.le_cap
    have hfl := HQ.out.rdf.le_cap
    have hfl2 := HQ.out.fls
    unfold maxLen at hal hfl
    simp only at hal hfl hfl2
    have HI := Lib.hid (fun j hj w3 (h3 : Fr [] w2 w3) => ih j hj w3 (hf2.trans h3 (by simp))); clear ih
    unfold ndAgg Qt.agg at HI ⊢
    simp only at HI ⊢
    have hop : op = 1 ∨ op = 2 ∨ op = 3 ∨ op = 4 ∨ op = 5 ∨ op = 6 ∨ op = 7 ∨ op = 8 ∨ op = 9 ∨ op = 10 := by omega
    rcases hop with rfl | rfl | rfl | rfl | rfl | rfl | rfl | rfl | rfl | rfl
    · go_enter Tryd.func79, Tryd.ntmps79
      go_wp2
      go_ret
      exact ⟨rfl, ((Fr.refl [] w2).alloc _).alloc _⟩
    · go_enter Tryd.func79, Tryd.ntmps79
      have HU := Lib.hid (fun w3 (h3 : Fr [] w2 w3) => under_any w3 qna na qnl nl qnc nc qnm nm (HQ.out.fr h3).rdn (HM.out.fr h3).rdn (fun j hj => Nat.le_trans (HQ.out.szs j hj) (by decide)) (fun j hj => Nat.le_trans (HM.out.szs j hj) (by decide)))
      go_wp2_with (go_at_call 93; refine (HU.out _ (((Fr.refl [] w2).alloc _).alloc _)).mono ?_; rintro e wx ⟨rfl, hfx⟩)
      go_ret
      exact ⟨rfl, (((Fr.refl [] w2).alloc _).alloc _).trans hfx (by simp)⟩
    · go_enter Tryd.func79, Tryd.ntmps79
      go_wp2
      go_ret
      exact ⟨rfl, ((Fr.refl [] w2).alloc _).alloc _⟩
    · go_enter Tryd.func79, Tryd.ntmps79
      go_wp2
      go_ret
      exact ⟨rfl, ((Fr.refl [] w2).alloc _).alloc _⟩
    · go_enter Tryd.func79, Tryd.ntmps79
      go_wp2
      go_ret
      exact ⟨rfl, ((Fr.refl [] w2).alloc _).alloc _⟩
    · go_enter Tryd.func79, Tryd.ntmps79
      go_wp2
      go_ret
      exact ⟨rfl, ((Fr.refl [] w2).alloc _).alloc _⟩
    · go_enter Tryd.func79, Tryd.ntmps79
      obtain ⟨p1, p2, p3⟩ := n3 rfl
      have HU := Lib.hid (fun w3 (h3 : Fr [] w2 w3) => begins_any w3 fa fl fc ff aa al ac ad k (HQ.out.fr h3).rdf (HM.out.fr h3).rda HQ.out.ffs HM.out.ads p3 hfl2 p1 p2)
      go_wp2_with (go_at_call 94; refine (HU.out _ (((Fr.refl [] w2).alloc _).alloc _)).mono ?_; rintro e wx ⟨rfl, hfx⟩)
      go_ret
      exact ⟨rfl, (((Fr.refl [] w2).alloc _).alloc _).trans hfx (by simp)⟩
    · go_enter Tryd.func79, Tryd.ntmps79
      rw [show tkN 8 = 1 from rfl] at hr2 ⊢
      obtain ⟨bb, oo, cc, he, _, _, _, hcell⟩ := RdC.shape (n := 1) (s := 5) hr2 (by decide) (by decide)
      simp only [Value.slice.injEq, true_and] at he
      obtain ⟨rfl, rfl⟩ := he
      rw [show nodeH ⟨8, k, na, nl, nc, nm, aa, al, ac, ad⟩ ⟨qna, qnl, qnc, qnm, ty, cl, opc, rd, fa, fl, fc, ff⟩ bs = (!bs 0) from rfl]
      have c00 : w2.cell? ⟨bb, oo, none⟩ = some (ndF (ms 0) (vs 0) 0) := hcell 0 0 (by decide) (by decide)
      have c01 : w2.cell? ⟨bb, oo + 1, none⟩ = some (ndF (ms 0) (vs 0) 1) := hcell 0 1 (by decide) (by decide)
      have c02 : w2.cell? ⟨bb, oo + 2, none⟩ = some (ndF (ms 0) (vs 0) 2) := hcell 0 2 (by decide) (by decide)
      have c03 : w2.cell? ⟨bb, oo + 3, none⟩ = some (ndF (ms 0) (vs 0) 3) := hcell 0 3 (by decide) (by decide)
      have c04 : w2.cell? ⟨bb, oo + 4, none⟩ = some (ndF (ms 0) (vs 0) 4) := hcell 0 4 (by decide) (by decide)
      have HI0 := Lib.hid (HI.out 0 (by decide))
      clear hcell hr2 HI
      unfold ndF at c00 c01 c02 c03 c04
      generalize bs 0 = b0 at *
      generalize vs 0 = v0 at *
      generalize ms 0 = m0 at *
      obtain ⟨op0, k0, na0, nl0, nc0, nm0, aa0, al0, ac0, ad0⟩ := m0
      simp only at c00 c01 c02 c03 c04 HI0
      have HF0 : ∀ w4, Fr [] ((w2.alloc (.cells #[.int .i64 8, .int .i64 k, .slice na nl nc, .slice aa al ac, .slice (some ⟨bb, oo, none⟩) 1 c] 125)).alloc (.cells #[.slice qna qnl qnc, .int .i64 ty, .int .i64 cl, .int .i64 opc, .bool rd, .slice fa fl fc] 72)) w4 → (w4.cell? ⟨w2.heap.size, 4, none⟩ = some (.slice (some ⟨bb, oo, none⟩) 1 c)) ∧ (w4.cell? ⟨w2.heap.size + 1, 0, none⟩ = some (.slice qna qnl qnc)) ∧ (w4.cell? ⟨w2.heap.size + 1, 1, none⟩ = some (.int .i64 ty)) ∧ (w4.cell? ⟨w2.heap.size + 1, 2, none⟩ = some (.int .i64 cl)) ∧ (w4.cell? ⟨w2.heap.size + 1, 3, none⟩ = some (.int .i64 opc)) ∧ (w4.cell? ⟨w2.heap.size + 1, 4, none⟩ = some (.bool rd)) ∧ (w4.cell? ⟨w2.heap.size + 1, 5, none⟩ = some (.slice fa fl fc)) ∧ (w4.cell? ⟨bb, oo, none⟩ = some (.int .i64 op0)) ∧ (w4.cell? ⟨bb, oo + 1, none⟩ = some (.int .i64 k0)) ∧ (w4.cell? ⟨bb, oo + 2, none⟩ = some (.slice na0 nl0 nc0)) ∧ (w4.cell? ⟨bb, oo + 3, none⟩ = some (.slice aa0 al0 ac0)) ∧ (w4.cell? ⟨bb, oo + 4, none⟩ = some (v0)) := by
        intro w4 h4
        have hA : ((w2.alloc (.cells #[.int .i64 8, .int .i64 k, .slice na nl nc, .slice aa al ac, .slice (some ⟨bb, oo, none⟩) 1 c] 125)).alloc (.cells #[.slice qna qnl qnc, .int .i64 ty, .int .i64 cl, .int .i64 opc, .bool rd, .slice fa fl fc] 72)).heap[w2.heap.size]? = some (.cells #[.int .i64 8, .int .i64 k, .slice na nl nc, .slice aa al ac, .slice (some ⟨bb, oo, none⟩) 1 c] 125 (0, 0)) := by rw [heap_alloc_old _ _ (by simp)]; exact heap_alloc_new w2 _
        have hB : ((w2.alloc (.cells #[.int .i64 8, .int .i64 k, .slice na nl nc, .slice aa al ac, .slice (some ⟨bb, oo, none⟩) 1 c] 125)).alloc (.cells #[.slice qna qnl qnc, .int .i64 ty, .int .i64 cl, .int .i64 opc, .bool rd, .slice fa fl fc] 72)).heap[w2.heap.size + 1]? = some (.cells #[.slice qna qnl qnc, .int .i64 ty, .int .i64 cl, .int .i64 opc, .bool rd, .slice fa fl fc] 72 (0, 0)) := by have := heap_alloc_new (w2.alloc (.cells #[.int .i64 8, .int .i64 k, .slice na nl nc, .slice aa al ac, .slice (some ⟨bb, oo, none⟩) 1 c] 125)) (.cells #[.slice qna qnl qnc, .int .i64 ty, .int .i64 cl, .int .i64 opc, .bool rd, .slice fa fl fc] 72); simpa using this
        have h2 : Fr [] w2 w4 := (((Fr.refl [] w2).alloc _).alloc _).trans h4 (by simp)
        exact ⟨blk_cell (h4.blk hA (by simp)) 4 rfl, blk_cell (h4.blk hB (by simp)) 0 rfl, blk_cell (h4.blk hB (by simp)) 1 rfl, blk_cell (h4.blk hB (by simp)) 2 rfl, blk_cell (h4.blk hB (by simp)) 3 rfl, blk_cell (h4.blk hB (by simp)) 4 rfl, blk_cell (h4.blk hB (by simp)) 5 rfl, h2.cell c00 (by simp), h2.cell c01 (by simp), h2.cell c02 (by simp), h2.cell c03 (by simp), h2.cell c04 (by simp)⟩
      clear c00 c01 c02 c03 c04
      have FR0 := ((Fr.refl [] w2).alloc (.cells #[.int .i64 8, .int .i64 k, .slice na nl nc, .slice aa al ac, .slice (some ⟨bb, oo, none⟩) 1 c] 125)).alloc (.cells #[.slice qna qnl qnc, .int .i64 ty, .int .i64 cl, .int .i64 opc, .bool rd, .slice fa fl fc] 72)
      have FR3 := Lib.hid FR0; clear FR0
      have HF := Lib.hid HF0; clear HF0
      go_wp2_with fail
      generalize (w2.alloc (.cells #[.int .i64 8, .int .i64 k, .slice na nl nc, .slice aa al ac, .slice (some ⟨bb, oo, none⟩) 1 c] 125)).alloc (.cells #[.slice qna qnl qnc, .int .i64 ty, .int .i64 cl, .int .i64 opc, .bool rd, .slice fa fl fc] 72) = w3 at *
      obtain ⟨f4, q0, q1, q2, q3, q4, q5, c00, c01, c02, c03, c04⟩ := HF.out w3 (Fr.refl _ _)
      go_region_held3 (fun w4 => (w4.cell? ⟨w2.heap.size, 4, none⟩ = some (.slice (some ⟨bb, oo, none⟩) 1 c)) ∧ (w4.cell? ⟨w2.heap.size + 1, 0, none⟩ = some (.slice qna qnl qnc)) ∧ (w4.cell? ⟨w2.heap.size + 1, 1, none⟩ = some (.int .i64 ty)) ∧ (w4.cell? ⟨w2.heap.size + 1, 2, none⟩ = some (.int .i64 cl)) ∧ (w4.cell? ⟨w2.heap.size + 1, 3, none⟩ = some (.int .i64 opc)) ∧ (w4.cell? ⟨w2.heap.size + 1, 4, none⟩ = some (.bool rd)) ∧ (w4.cell? ⟨w2.heap.size + 1, 5, none⟩ = some (.slice fa fl fc)) ∧ (w4.cell? ⟨bb, oo, none⟩ = some (.int .i64 op0)) ∧ (w4.cell? ⟨bb, oo + 1, none⟩ = some (.int .i64 k0)) ∧ (w4.cell? ⟨bb, oo + 2, none⟩ = some (.slice na0 nl0 nc0)) ∧ (w4.cell? ⟨bb, oo + 3, none⟩ = some (.slice aa0 al0 ac0)) ∧ (w4.cell? ⟨bb, oo + 4, none⟩ = some (v0)))
        (first | exact HF.out _ (Fr.refl _ _) | exact HF.out _ ((Fr.refl [] w3).drew) | exact HF.out _ HX.out | exact HF.out _ HX.out.drew)
        (first
        | (go_at_call 79; refine (HI0.out _ (by first | exact FR3.out | exact FR3.out.drew)).mono ?_; rintro e wx ⟨rfl, hfx⟩; have HX := Lib.hid (((Fr.refl [] w3).drew).trans hfx (by simp))))
      all_goals go_wp2
      all_goals go_ret
      all_goals exact ⟨rfl, FR3.out.trans HX.out (by simp)⟩
    · rw [show tkN 9 = 2 from rfl] at hr2 ⊢
      obtain ⟨bb, oo, cc, he, hcc, _, _, hcell⟩ := RdC.shape (n := 2) (s := 5) hr2 (by decide) (by decide)
      simp only [Value.slice.injEq, true_and] at he
      obtain ⟨rfl, rfl⟩ := he
      rw [show nodeH ⟨9, k, na, nl, nc, nm, aa, al, ac, ad⟩ ⟨qna, qnl, qnc, qnm, ty, cl, opc, rd, fa, fl, fc, ff⟩ bs = (bs 0 && bs 1) from rfl]
      have c00 : w2.cell? ⟨bb, oo, none⟩ = some (ndF (ms 0) (vs 0) 0) := hcell 0 0 (by decide) (by decide)
      have c01 : w2.cell? ⟨bb, oo + 1, none⟩ = some (ndF (ms 0) (vs 0) 1) := hcell 0 1 (by decide) (by decide)
      have c02 : w2.cell? ⟨bb, oo + 2, none⟩ = some (ndF (ms 0) (vs 0) 2) := hcell 0 2 (by decide) (by decide)
      have c03 : w2.cell? ⟨bb, oo + 3, none⟩ = some (ndF (ms 0) (vs 0) 3) := hcell 0 3 (by decide) (by decide)
      have c04 : w2.cell? ⟨bb, oo + 4, none⟩ = some (ndF (ms 0) (vs 0) 4) := hcell 0 4 (by decide) (by decide)
      have HI0 := Lib.hid (HI.out 0 (by decide))
      have c10 : w2.cell? ⟨bb, oo + 5, none⟩ = some (ndF (ms 1) (vs 1) 0) := hcell 1 0 (by decide) (by decide)
      have c11 : w2.cell? ⟨bb, oo + 5 + 1, none⟩ = some (ndF (ms 1) (vs 1) 1) := hcell 1 1 (by decide) (by decide)
      have c12 : w2.cell? ⟨bb, oo + 5 + 2, none⟩ = some (ndF (ms 1) (vs 1) 2) := hcell 1 2 (by decide) (by decide)
      have c13 : w2.cell? ⟨bb, oo + 5 + 3, none⟩ = some (ndF (ms 1) (vs 1) 3) := hcell 1 3 (by decide) (by decide)
      have c14 : w2.cell? ⟨bb, oo + 5 + 4, none⟩ = some (ndF (ms 1) (vs 1) 4) := hcell 1 4 (by decide) (by decide)
      have HI1 := Lib.hid (HI.out 1 (by decide))
      clear hcell hr2 HI
      unfold ndF at c00 c01 c02 c03 c04
      generalize bs 0 = b0 at *
      generalize vs 0 = v0 at *
      generalize ms 0 = m0 at *
      obtain ⟨op0, k0, na0, nl0, nc0, nm0, aa0, al0, ac0, ad0⟩ := m0
      simp only at c00 c01 c02 c03 c04 HI0
      unfold ndF at c10 c11 c12 c13 c14
      generalize bs 1 = b1 at *
      generalize vs 1 = v1 at *
      generalize ms 1 = m1 at *
      obtain ⟨op1, k1, na1, nl1, nc1, nm1, aa1, al1, ac1, ad1⟩ := m1
      simp only at c10 c11 c12 c13 c14 HI1
      cases b0
      case false => exact holds9_false w2 k na nl nc aa al ac c bb oo hcc qna qnl qnc ty cl opc rd fa fl fc op0 k0 na0 nl0 nc0 aa0 al0 ac0 v0 c00 c01 c02 c03 c04 HI0 op1 k1 na1 nl1 nc1 aa1 al1 ac1 v1 c10 c11 c12 c13 c14
      case true => exact holds9_true w2 k na nl nc aa al ac c bb oo hcc qna qnl qnc ty cl opc rd fa fl fc op0 k0 na0 nl0 nc0 aa0 al0 ac0 v0 c00 c01 c02 c03 c04 HI0 op1 k1 na1 nl1 nc1 aa1 al1 ac1 v1 c10 c11 c12 c13 c14 b1 HI1
    · rw [show tkN 10 = 2 from rfl] at hr2 ⊢
      obtain ⟨bb, oo, cc, he, hcc, _, _, hcell⟩ := RdC.shape (n := 2) (s := 5) hr2 (by decide) (by decide)
      simp only [Value.slice.injEq, true_and] at he
      obtain ⟨rfl, rfl⟩ := he
      rw [show nodeH ⟨10, k, na, nl, nc, nm, aa, al, ac, ad⟩ ⟨qna, qnl, qnc, qnm, ty, cl, opc, rd, fa, fl, fc, ff⟩ bs = (bs 0 || bs 1) from rfl]
      have c00 : w2.cell? ⟨bb, oo, none⟩ = some (ndF (ms 0) (vs 0) 0) := hcell 0 0 (by decide) (by decide)
      have c01 : w2.cell? ⟨bb, oo + 1, none⟩ = some (ndF (ms 0) (vs 0) 1) := hcell 0 1 (by decide) (by decide)
      have c02 : w2.cell? ⟨bb, oo + 2, none⟩ = some (ndF (ms 0) (vs 0) 2) := hcell 0 2 (by decide) (by decide)
      have c03 : w2.cell? ⟨bb, oo + 3, none⟩ = some (ndF (ms 0) (vs 0) 3) := hcell 0 3 (by decide) (by decide)
      have c04 : w2.cell? ⟨bb, oo + 4, none⟩ = some (ndF (ms 0) (vs 0) 4) := hcell 0 4 (by decide) (by decide)
      have HI0 := Lib.hid (HI.out 0 (by decide))
      have c10 : w2.cell? ⟨bb, oo + 5, none⟩ = some (ndF (ms 1) (vs 1) 0) := hcell 1 0 (by decide) (by decide)
      have c11 : w2.cell? ⟨bb, oo + 5 + 1, none⟩ = some (ndF (ms 1) (vs 1) 1) := hcell 1 1 (by decide) (by decide)
      have c12 : w2.cell? ⟨bb, oo + 5 + 2, none⟩ = some (ndF (ms 1) (vs 1) 2) := hcell 1 2 (by decide) (by decide)
      have c13 : w2.cell? ⟨bb, oo + 5 + 3, none⟩ = some (ndF (ms 1) (vs 1) 3) := hcell 1 3 (by decide) (by decide)
      have c14 : w2.cell? ⟨bb, oo + 5 + 4, none⟩ = some (ndF (ms 1) (vs 1) 4) := hcell 1 4 (by decide) (by decide)
      have HI1 := Lib.hid (HI.out 1 (by decide))
      clear hcell hr2 HI
      unfold ndF at c00 c01 c02 c03 c04
      generalize bs 0 = b0 at *
      generalize vs 0 = v0 at *
      generalize ms 0 = m0 at *
      obtain ⟨op0, k0, na0, nl0, nc0, nm0, aa0, al0, ac0, ad0⟩ := m0
      simp only at c00 c01 c02 c03 c04 HI0
      unfold ndF at c10 c11 c12 c13 c14
      generalize bs 1 = b1 at *
      generalize vs 1 = v1 at *
      generalize ms 1 = m1 at *
      obtain ⟨op1, k1, na1, nl1, nc1, nm1, aa1, al1, ac1, ad1⟩ := m1
      simp only at c10 c11 c12 c13 c14 HI1
      cases b0
      case false => exact holds10_false w2 k na nl nc aa al ac c bb oo hcc qna qnl qnc ty cl opc rd fa fl fc op0 k0 na0 nl0 nc0 aa0 al0 ac0 v0 c00 c01 c02 c03 c04 HI0 op1 k1 na1 nl1 nc1 aa1 al1 ac1 v1 c10 c11 c12 c13 c14 b1 HI1
      case true => exact holds10_true w2 k na nl nc aa al ac c bb oo hcc qna qnl qnc ty cl opc rd fa fl fc op0 k0 na0 nl0 nc0 aa0 al0 ac0 v0 c00 c01 c02 c03 c04 HI0 op1 k1 na1 nl1 nc1 aa1 al1 ac1 v1 c10 c11 c12 c13 c14

end Go.Proofs.YtgpfkaiinbncnaaDoor
