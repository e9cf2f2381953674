/- node.holds at And and Or, walked (printed by wip/bin/holds.py). -/
import Derived.Test.YtgpfkaiinbncnaaDoorHolds
namespace Go.Proofs.YtgpfkaiinbncnaaDoor
open Go.RowKit

def hdPost (w : World) (b : Bool) : Ending → World → Prop := fun e w' => e = .returned (.bool b) ∧ Fr [] w w'

set_option maxHeartbeats 8000000 in
set_option maxRecDepth 100000 in
theorem holds9_false (w2 : World) (k : Int) (na : Option Addr) (nl nc : Nat) (aa : Option Addr) (al ac c : Nat) (bb oo : Nat) (_hc : 2 ≤ c)
    (qna : Option Addr) (qnl qnc : Nat) (ty cl opc : Int) (rd : Bool) (fa : Option Addr) (fl fc : Nat)
    (op0 k0 : Int) (na0 : Option Addr) (nl0 nc0 : Nat) (aa0 : Option Addr) (al0 ac0 : Nat) (v0 : Value)
    (c00 : w2.cell? ⟨bb, oo, none⟩ = some (.int .i64 op0))
    (c01 : w2.cell? ⟨bb, oo + 1, none⟩ = some (.int .i64 k0))
    (c02 : w2.cell? ⟨bb, oo + 2, none⟩ = some (.slice na0 nl0 nc0))
    (c03 : w2.cell? ⟨bb, oo + 3, none⟩ = some (.slice aa0 al0 ac0))
    (c04 : w2.cell? ⟨bb, oo + 4, none⟩ = some (v0))
    (HI0 : Hid (∀ w3, Fr [] w2 w3 → Calls Tryd.prog 79 #[.agg #[.int .i64 op0, .int .i64 k0, .slice na0 nl0 nc0, .slice aa0 al0 ac0, v0], .agg #[.slice qna qnl qnc, .int .i64 ty, .int .i64 cl, .int .i64 opc, .bool rd, .slice fa fl fc]] w3 (hdPost w3 false)))
    (op1 k1 : Int) (na1 : Option Addr) (nl1 nc1 : Nat) (aa1 : Option Addr) (al1 ac1 : Nat) (v1 : Value)
    (c10 : w2.cell? ⟨bb, oo + 5, none⟩ = some (.int .i64 op1))
    (c11 : w2.cell? ⟨bb, oo + 5 + 1, none⟩ = some (.int .i64 k1))
    (c12 : w2.cell? ⟨bb, oo + 5 + 2, none⟩ = some (.slice na1 nl1 nc1))
    (c13 : w2.cell? ⟨bb, oo + 5 + 3, none⟩ = some (.slice aa1 al1 ac1))
    (c14 : w2.cell? ⟨bb, oo + 5 + 4, none⟩ = some (v1))
    : Calls Tryd.prog 79 #[.agg #[.int .i64 9, .int .i64 k, .slice na nl nc, .slice aa al ac, .slice (some ⟨bb, oo, none⟩) 2 c], .agg #[.slice qna qnl qnc, .int .i64 ty, .int .i64 cl, .int .i64 opc, .bool rd, .slice fa fl fc]] w2 (hdPost w2 false) := by
  have HF0 : ∀ w4, Fr [] ((w2.alloc (.cells #[.int .i64 9, .int .i64 k, .slice na nl nc, .slice aa al ac, .slice (some ⟨bb, oo, none⟩) 2 c] 125)).alloc (.cells #[.slice qna qnl qnc, .int .i64 ty, .int .i64 cl, .int .i64 opc, .bool rd, .slice fa fl fc] 72)) w4 → (w4.cell? ⟨w2.heap.size, 4, none⟩ = some (.slice (some ⟨bb, oo, none⟩) 2 c)) ∧ (w4.cell? ⟨w2.heap.size + 1, 0, none⟩ = some (.slice qna qnl qnc)) ∧ (w4.cell? ⟨w2.heap.size + 1, 1, none⟩ = some (.int .i64 ty)) ∧ (w4.cell? ⟨w2.heap.size + 1, 2, none⟩ = some (.int .i64 cl)) ∧ (w4.cell? ⟨w2.heap.size + 1, 3, none⟩ = some (.int .i64 opc)) ∧ (w4.cell? ⟨w2.heap.size + 1, 4, none⟩ = some (.bool rd)) ∧ (w4.cell? ⟨w2.heap.size + 1, 5, none⟩ = some (.slice fa fl fc)) ∧ (w4.cell? ⟨bb, oo, none⟩ = some (.int .i64 op0)) ∧ (w4.cell? ⟨bb, oo + 1, none⟩ = some (.int .i64 k0)) ∧ (w4.cell? ⟨bb, oo + 2, none⟩ = some (.slice na0 nl0 nc0)) ∧ (w4.cell? ⟨bb, oo + 3, none⟩ = some (.slice aa0 al0 ac0)) ∧ (w4.cell? ⟨bb, oo + 4, none⟩ = some (v0)) ∧ (w4.cell? ⟨bb, oo + 5, none⟩ = some (.int .i64 op1)) ∧ (w4.cell? ⟨bb, oo + 5 + 1, none⟩ = some (.int .i64 k1)) ∧ (w4.cell? ⟨bb, oo + 5 + 2, none⟩ = some (.slice na1 nl1 nc1)) ∧ (w4.cell? ⟨bb, oo + 5 + 3, none⟩ = some (.slice aa1 al1 ac1)) ∧ (w4.cell? ⟨bb, oo + 5 + 4, none⟩ = some (v1)) := by
    intro w4 h4
    have hA : ((w2.alloc (.cells #[.int .i64 9, .int .i64 k, .slice na nl nc, .slice aa al ac, .slice (some ⟨bb, oo, none⟩) 2 c] 125)).alloc (.cells #[.slice qna qnl qnc, .int .i64 ty, .int .i64 cl, .int .i64 opc, .bool rd, .slice fa fl fc] 72)).heap[w2.heap.size]? = some (.cells #[.int .i64 9, .int .i64 k, .slice na nl nc, .slice aa al ac, .slice (some ⟨bb, oo, none⟩) 2 c] 125 (0, 0)) := by rw [heap_alloc_old _ _ (by simp)]; exact heap_alloc_new w2 _
    have hB : ((w2.alloc (.cells #[.int .i64 9, .int .i64 k, .slice na nl nc, .slice aa al ac, .slice (some ⟨bb, oo, none⟩) 2 c] 125)).alloc (.cells #[.slice qna qnl qnc, .int .i64 ty, .int .i64 cl, .int .i64 opc, .bool rd, .slice fa fl fc] 72)).heap[w2.heap.size + 1]? = some (.cells #[.slice qna qnl qnc, .int .i64 ty, .int .i64 cl, .int .i64 opc, .bool rd, .slice fa fl fc] 72 (0, 0)) := by have := heap_alloc_new (w2.alloc (.cells #[.int .i64 9, .int .i64 k, .slice na nl nc, .slice aa al ac, .slice (some ⟨bb, oo, none⟩) 2 c] 125)) (.cells #[.slice qna qnl qnc, .int .i64 ty, .int .i64 cl, .int .i64 opc, .bool rd, .slice fa fl fc] 72); simpa using this
    have h2 : Fr [] w2 w4 := (((Fr.refl [] w2).alloc _).alloc _).trans h4 (by simp)
    exact ⟨blk_cell (h4.blk hA (by simp)) 4 rfl, blk_cell (h4.blk hB (by simp)) 0 rfl, blk_cell (h4.blk hB (by simp)) 1 rfl, blk_cell (h4.blk hB (by simp)) 2 rfl, blk_cell (h4.blk hB (by simp)) 3 rfl, blk_cell (h4.blk hB (by simp)) 4 rfl, blk_cell (h4.blk hB (by simp)) 5 rfl, h2.cell c00 (by simp), h2.cell c01 (by simp), h2.cell c02 (by simp), h2.cell c03 (by simp), h2.cell c04 (by simp), h2.cell c10 (by simp), h2.cell c11 (by simp), h2.cell c12 (by simp), h2.cell c13 (by simp), h2.cell c14 (by simp)⟩
  clear c00 c01 c02 c03 c04 c10 c11 c12 c13 c14
  have FR3 := Lib.hid (show Fr [] w2 ((w2.alloc (.cells #[.int .i64 9, .int .i64 k, .slice na nl nc, .slice aa al ac, .slice (some ⟨bb, oo, none⟩) 2 c] 125)).alloc (.cells #[.slice qna qnl qnc, .int .i64 ty, .int .i64 cl, .int .i64 opc, .bool rd, .slice fa fl fc] 72)) from ((Fr.refl [] w2).alloc _).alloc _)
  have HF := Lib.hid HF0; clear HF0
  unfold hdPost at HI0 ⊢
  go_enter Tryd.func79, Tryd.ntmps79
  go_wp2_with fail
  generalize (w2.alloc (.cells #[.int .i64 9, .int .i64 k, .slice na nl nc, .slice aa al ac, .slice (some ⟨bb, oo, none⟩) 2 c] 125)).alloc (.cells #[.slice qna qnl qnc, .int .i64 ty, .int .i64 cl, .int .i64 opc, .bool rd, .slice fa fl fc] 72) = w3 at *
  obtain ⟨f4, q0, q1, q2, q3, q4, q5, c00, c01, c02, c03, c04, c10, c11, c12, c13, c14⟩ := HF.out w3 (Fr.refl _ _)
  have HX0 := Lib.hid (Fr.refl [] w3)
  first
    | go_region_with (first | (go_at_call 79; (with_reducible refine (HI0.out _ FR3.out.drew).mono ?_); rintro e wx ⟨rfl, hfx⟩; have HX := Lib.hid (((Fr.refl [] w3).drew).trans hfx (by simp))) | fail)
    | fail
  all_goals go_wp2
  all_goals go_ret
  all_goals exact ⟨rfl, FR3.out.trans HX.out (by simp)⟩

set_option maxHeartbeats 8000000 in
set_option maxRecDepth 100000 in
theorem holds9_true (w2 : World) (k : Int) (na : Option Addr) (nl nc : Nat) (aa : Option Addr) (al ac c : Nat) (bb oo : Nat) (_hc : 2 ≤ c)
    (qna : Option Addr) (qnl qnc : Nat) (ty cl opc : Int) (rd : Bool) (fa : Option Addr) (fl fc : Nat)
    (op0 k0 : Int) (na0 : Option Addr) (nl0 nc0 : Nat) (aa0 : Option Addr) (al0 ac0 : Nat) (v0 : Value)
    (c00 : w2.cell? ⟨bb, oo, none⟩ = some (.int .i64 op0))
    (c01 : w2.cell? ⟨bb, oo + 1, none⟩ = some (.int .i64 k0))
    (c02 : w2.cell? ⟨bb, oo + 2, none⟩ = some (.slice na0 nl0 nc0))
    (c03 : w2.cell? ⟨bb, oo + 3, none⟩ = some (.slice aa0 al0 ac0))
    (c04 : w2.cell? ⟨bb, oo + 4, none⟩ = some (v0))
    (HI0 : Hid (∀ w3, Fr [] w2 w3 → Calls Tryd.prog 79 #[.agg #[.int .i64 op0, .int .i64 k0, .slice na0 nl0 nc0, .slice aa0 al0 ac0, v0], .agg #[.slice qna qnl qnc, .int .i64 ty, .int .i64 cl, .int .i64 opc, .bool rd, .slice fa fl fc]] w3 (hdPost w3 true)))
    (op1 k1 : Int) (na1 : Option Addr) (nl1 nc1 : Nat) (aa1 : Option Addr) (al1 ac1 : Nat) (v1 : Value)
    (c10 : w2.cell? ⟨bb, oo + 5, none⟩ = some (.int .i64 op1))
    (c11 : w2.cell? ⟨bb, oo + 5 + 1, none⟩ = some (.int .i64 k1))
    (c12 : w2.cell? ⟨bb, oo + 5 + 2, none⟩ = some (.slice na1 nl1 nc1))
    (c13 : w2.cell? ⟨bb, oo + 5 + 3, none⟩ = some (.slice aa1 al1 ac1))
    (c14 : w2.cell? ⟨bb, oo + 5 + 4, none⟩ = some (v1))
    (b1 : Bool) (HI1 : Hid (∀ w3, Fr [] w2 w3 → Calls Tryd.prog 79 #[.agg #[.int .i64 op1, .int .i64 k1, .slice na1 nl1 nc1, .slice aa1 al1 ac1, v1], .agg #[.slice qna qnl qnc, .int .i64 ty, .int .i64 cl, .int .i64 opc, .bool rd, .slice fa fl fc]] w3 (hdPost w3 b1)))
    : Calls Tryd.prog 79 #[.agg #[.int .i64 9, .int .i64 k, .slice na nl nc, .slice aa al ac, .slice (some ⟨bb, oo, none⟩) 2 c], .agg #[.slice qna qnl qnc, .int .i64 ty, .int .i64 cl, .int .i64 opc, .bool rd, .slice fa fl fc]] w2 (hdPost w2 b1) := by
  have HF0 : ∀ w4, Fr [] ((w2.alloc (.cells #[.int .i64 9, .int .i64 k, .slice na nl nc, .slice aa al ac, .slice (some ⟨bb, oo, none⟩) 2 c] 125)).alloc (.cells #[.slice qna qnl qnc, .int .i64 ty, .int .i64 cl, .int .i64 opc, .bool rd, .slice fa fl fc] 72)) w4 → (w4.cell? ⟨w2.heap.size, 4, none⟩ = some (.slice (some ⟨bb, oo, none⟩) 2 c)) ∧ (w4.cell? ⟨w2.heap.size + 1, 0, none⟩ = some (.slice qna qnl qnc)) ∧ (w4.cell? ⟨w2.heap.size + 1, 1, none⟩ = some (.int .i64 ty)) ∧ (w4.cell? ⟨w2.heap.size + 1, 2, none⟩ = some (.int .i64 cl)) ∧ (w4.cell? ⟨w2.heap.size + 1, 3, none⟩ = some (.int .i64 opc)) ∧ (w4.cell? ⟨w2.heap.size + 1, 4, none⟩ = some (.bool rd)) ∧ (w4.cell? ⟨w2.heap.size + 1, 5, none⟩ = some (.slice fa fl fc)) ∧ (w4.cell? ⟨bb, oo, none⟩ = some (.int .i64 op0)) ∧ (w4.cell? ⟨bb, oo + 1, none⟩ = some (.int .i64 k0)) ∧ (w4.cell? ⟨bb, oo + 2, none⟩ = some (.slice na0 nl0 nc0)) ∧ (w4.cell? ⟨bb, oo + 3, none⟩ = some (.slice aa0 al0 ac0)) ∧ (w4.cell? ⟨bb, oo + 4, none⟩ = some (v0)) ∧ (w4.cell? ⟨bb, oo + 5, none⟩ = some (.int .i64 op1)) ∧ (w4.cell? ⟨bb, oo + 5 + 1, none⟩ = some (.int .i64 k1)) ∧ (w4.cell? ⟨bb, oo + 5 + 2, none⟩ = some (.slice na1 nl1 nc1)) ∧ (w4.cell? ⟨bb, oo + 5 + 3, none⟩ = some (.slice aa1 al1 ac1)) ∧ (w4.cell? ⟨bb, oo + 5 + 4, none⟩ = some (v1)) := by
    intro w4 h4
    have hA : ((w2.alloc (.cells #[.int .i64 9, .int .i64 k, .slice na nl nc, .slice aa al ac, .slice (some ⟨bb, oo, none⟩) 2 c] 125)).alloc (.cells #[.slice qna qnl qnc, .int .i64 ty, .int .i64 cl, .int .i64 opc, .bool rd, .slice fa fl fc] 72)).heap[w2.heap.size]? = some (.cells #[.int .i64 9, .int .i64 k, .slice na nl nc, .slice aa al ac, .slice (some ⟨bb, oo, none⟩) 2 c] 125 (0, 0)) := by rw [heap_alloc_old _ _ (by simp)]; exact heap_alloc_new w2 _
    have hB : ((w2.alloc (.cells #[.int .i64 9, .int .i64 k, .slice na nl nc, .slice aa al ac, .slice (some ⟨bb, oo, none⟩) 2 c] 125)).alloc (.cells #[.slice qna qnl qnc, .int .i64 ty, .int .i64 cl, .int .i64 opc, .bool rd, .slice fa fl fc] 72)).heap[w2.heap.size + 1]? = some (.cells #[.slice qna qnl qnc, .int .i64 ty, .int .i64 cl, .int .i64 opc, .bool rd, .slice fa fl fc] 72 (0, 0)) := by have := heap_alloc_new (w2.alloc (.cells #[.int .i64 9, .int .i64 k, .slice na nl nc, .slice aa al ac, .slice (some ⟨bb, oo, none⟩) 2 c] 125)) (.cells #[.slice qna qnl qnc, .int .i64 ty, .int .i64 cl, .int .i64 opc, .bool rd, .slice fa fl fc] 72); simpa using this
    have h2 : Fr [] w2 w4 := (((Fr.refl [] w2).alloc _).alloc _).trans h4 (by simp)
    exact ⟨blk_cell (h4.blk hA (by simp)) 4 rfl, blk_cell (h4.blk hB (by simp)) 0 rfl, blk_cell (h4.blk hB (by simp)) 1 rfl, blk_cell (h4.blk hB (by simp)) 2 rfl, blk_cell (h4.blk hB (by simp)) 3 rfl, blk_cell (h4.blk hB (by simp)) 4 rfl, blk_cell (h4.blk hB (by simp)) 5 rfl, h2.cell c00 (by simp), h2.cell c01 (by simp), h2.cell c02 (by simp), h2.cell c03 (by simp), h2.cell c04 (by simp), h2.cell c10 (by simp), h2.cell c11 (by simp), h2.cell c12 (by simp), h2.cell c13 (by simp), h2.cell c14 (by simp)⟩
  clear c00 c01 c02 c03 c04 c10 c11 c12 c13 c14
  have FR3 := Lib.hid (show Fr [] w2 ((w2.alloc (.cells #[.int .i64 9, .int .i64 k, .slice na nl nc, .slice aa al ac, .slice (some ⟨bb, oo, none⟩) 2 c] 125)).alloc (.cells #[.slice qna qnl qnc, .int .i64 ty, .int .i64 cl, .int .i64 opc, .bool rd, .slice fa fl fc] 72)) from ((Fr.refl [] w2).alloc _).alloc _)
  have HF := Lib.hid HF0; clear HF0
  unfold hdPost at HI0 HI1 ⊢
  go_enter Tryd.func79, Tryd.ntmps79
  go_wp2_with fail
  generalize (w2.alloc (.cells #[.int .i64 9, .int .i64 k, .slice na nl nc, .slice aa al ac, .slice (some ⟨bb, oo, none⟩) 2 c] 125)).alloc (.cells #[.slice qna qnl qnc, .int .i64 ty, .int .i64 cl, .int .i64 opc, .bool rd, .slice fa fl fc] 72) = w3 at *
  obtain ⟨f4, q0, q1, q2, q3, q4, q5, c00, c01, c02, c03, c04, c10, c11, c12, c13, c14⟩ := HF.out w3 (Fr.refl _ _)
  have HX0 := Lib.hid (Fr.refl [] w3)
  go_region_held3 (fun w4 => (w4.cell? ⟨w2.heap.size, 4, none⟩ = some (.slice (some ⟨bb, oo, none⟩) 2 c)) ∧ (w4.cell? ⟨w2.heap.size + 1, 0, none⟩ = some (.slice qna qnl qnc)) ∧ (w4.cell? ⟨w2.heap.size + 1, 1, none⟩ = some (.int .i64 ty)) ∧ (w4.cell? ⟨w2.heap.size + 1, 2, none⟩ = some (.int .i64 cl)) ∧ (w4.cell? ⟨w2.heap.size + 1, 3, none⟩ = some (.int .i64 opc)) ∧ (w4.cell? ⟨w2.heap.size + 1, 4, none⟩ = some (.bool rd)) ∧ (w4.cell? ⟨w2.heap.size + 1, 5, none⟩ = some (.slice fa fl fc)) ∧ (w4.cell? ⟨bb, oo, none⟩ = some (.int .i64 op0)) ∧ (w4.cell? ⟨bb, oo + 1, none⟩ = some (.int .i64 k0)) ∧ (w4.cell? ⟨bb, oo + 2, none⟩ = some (.slice na0 nl0 nc0)) ∧ (w4.cell? ⟨bb, oo + 3, none⟩ = some (.slice aa0 al0 ac0)) ∧ (w4.cell? ⟨bb, oo + 4, none⟩ = some (v0)) ∧ (w4.cell? ⟨bb, oo + 5, none⟩ = some (.int .i64 op1)) ∧ (w4.cell? ⟨bb, oo + 5 + 1, none⟩ = some (.int .i64 k1)) ∧ (w4.cell? ⟨bb, oo + 5 + 2, none⟩ = some (.slice na1 nl1 nc1)) ∧ (w4.cell? ⟨bb, oo + 5 + 3, none⟩ = some (.slice aa1 al1 ac1)) ∧ (w4.cell? ⟨bb, oo + 5 + 4, none⟩ = some (v1)))
    (first | exact HF.out _ ((Fr.refl [] w3).drew) | exact HF.out _ HX.out | exact HF.out _ HY.out)
    (first | (go_at_call 79; (with_reducible refine (HI0.out _ FR3.out.drew).mono ?_); rintro e wx ⟨rfl, hfx⟩; have HX := Lib.hid (((Fr.refl [] w3).drew).trans hfx (by simp))) | (go_at_call 79; (with_reducible refine (HI1.out _ (FR3.out.trans HX.out (by simp))).mono ?_); rintro e wy ⟨rfl, hfy⟩; have HY := Lib.hid (HX.out.trans hfy (by simp))) | fail)
  all_goals go_wp2
  all_goals go_ret
  all_goals exact ⟨rfl, FR3.out.trans HY.out (by simp)⟩

set_option maxHeartbeats 8000000 in
set_option maxRecDepth 100000 in
theorem holds10_false (w2 : World) (k : Int) (na : Option Addr) (nl nc : Nat) (aa : Option Addr) (al ac c : Nat) (bb oo : Nat) (_hc : 2 ≤ c)
    (qna : Option Addr) (qnl qnc : Nat) (ty cl opc : Int) (rd : Bool) (fa : Option Addr) (fl fc : Nat)
    (op0 k0 : Int) (na0 : Option Addr) (nl0 nc0 : Nat) (aa0 : Option Addr) (al0 ac0 : Nat) (v0 : Value)
    (c00 : w2.cell? ⟨bb, oo, none⟩ = some (.int .i64 op0))
    (c01 : w2.cell? ⟨bb, oo + 1, none⟩ = some (.int .i64 k0))
    (c02 : w2.cell? ⟨bb, oo + 2, none⟩ = some (.slice na0 nl0 nc0))
    (c03 : w2.cell? ⟨bb, oo + 3, none⟩ = some (.slice aa0 al0 ac0))
    (c04 : w2.cell? ⟨bb, oo + 4, none⟩ = some (v0))
    (HI0 : Hid (∀ w3, Fr [] w2 w3 → Calls Tryd.prog 79 #[.agg #[.int .i64 op0, .int .i64 k0, .slice na0 nl0 nc0, .slice aa0 al0 ac0, v0], .agg #[.slice qna qnl qnc, .int .i64 ty, .int .i64 cl, .int .i64 opc, .bool rd, .slice fa fl fc]] w3 (hdPost w3 false)))
    (op1 k1 : Int) (na1 : Option Addr) (nl1 nc1 : Nat) (aa1 : Option Addr) (al1 ac1 : Nat) (v1 : Value)
    (c10 : w2.cell? ⟨bb, oo + 5, none⟩ = some (.int .i64 op1))
    (c11 : w2.cell? ⟨bb, oo + 5 + 1, none⟩ = some (.int .i64 k1))
    (c12 : w2.cell? ⟨bb, oo + 5 + 2, none⟩ = some (.slice na1 nl1 nc1))
    (c13 : w2.cell? ⟨bb, oo + 5 + 3, none⟩ = some (.slice aa1 al1 ac1))
    (c14 : w2.cell? ⟨bb, oo + 5 + 4, none⟩ = some (v1))
    (b1 : Bool) (HI1 : Hid (∀ w3, Fr [] w2 w3 → Calls Tryd.prog 79 #[.agg #[.int .i64 op1, .int .i64 k1, .slice na1 nl1 nc1, .slice aa1 al1 ac1, v1], .agg #[.slice qna qnl qnc, .int .i64 ty, .int .i64 cl, .int .i64 opc, .bool rd, .slice fa fl fc]] w3 (hdPost w3 b1)))
    : Calls Tryd.prog 79 #[.agg #[.int .i64 10, .int .i64 k, .slice na nl nc, .slice aa al ac, .slice (some ⟨bb, oo, none⟩) 2 c], .agg #[.slice qna qnl qnc, .int .i64 ty, .int .i64 cl, .int .i64 opc, .bool rd, .slice fa fl fc]] w2 (hdPost w2 b1) := by
  have HF0 : ∀ w4, Fr [] ((w2.alloc (.cells #[.int .i64 10, .int .i64 k, .slice na nl nc, .slice aa al ac, .slice (some ⟨bb, oo, none⟩) 2 c] 125)).alloc (.cells #[.slice qna qnl qnc, .int .i64 ty, .int .i64 cl, .int .i64 opc, .bool rd, .slice fa fl fc] 72)) w4 → (w4.cell? ⟨w2.heap.size, 4, none⟩ = some (.slice (some ⟨bb, oo, none⟩) 2 c)) ∧ (w4.cell? ⟨w2.heap.size + 1, 0, none⟩ = some (.slice qna qnl qnc)) ∧ (w4.cell? ⟨w2.heap.size + 1, 1, none⟩ = some (.int .i64 ty)) ∧ (w4.cell? ⟨w2.heap.size + 1, 2, none⟩ = some (.int .i64 cl)) ∧ (w4.cell? ⟨w2.heap.size + 1, 3, none⟩ = some (.int .i64 opc)) ∧ (w4.cell? ⟨w2.heap.size + 1, 4, none⟩ = some (.bool rd)) ∧ (w4.cell? ⟨w2.heap.size + 1, 5, none⟩ = some (.slice fa fl fc)) ∧ (w4.cell? ⟨bb, oo, none⟩ = some (.int .i64 op0)) ∧ (w4.cell? ⟨bb, oo + 1, none⟩ = some (.int .i64 k0)) ∧ (w4.cell? ⟨bb, oo + 2, none⟩ = some (.slice na0 nl0 nc0)) ∧ (w4.cell? ⟨bb, oo + 3, none⟩ = some (.slice aa0 al0 ac0)) ∧ (w4.cell? ⟨bb, oo + 4, none⟩ = some (v0)) ∧ (w4.cell? ⟨bb, oo + 5, none⟩ = some (.int .i64 op1)) ∧ (w4.cell? ⟨bb, oo + 5 + 1, none⟩ = some (.int .i64 k1)) ∧ (w4.cell? ⟨bb, oo + 5 + 2, none⟩ = some (.slice na1 nl1 nc1)) ∧ (w4.cell? ⟨bb, oo + 5 + 3, none⟩ = some (.slice aa1 al1 ac1)) ∧ (w4.cell? ⟨bb, oo + 5 + 4, none⟩ = some (v1)) := by
    intro w4 h4
    have hA : ((w2.alloc (.cells #[.int .i64 10, .int .i64 k, .slice na nl nc, .slice aa al ac, .slice (some ⟨bb, oo, none⟩) 2 c] 125)).alloc (.cells #[.slice qna qnl qnc, .int .i64 ty, .int .i64 cl, .int .i64 opc, .bool rd, .slice fa fl fc] 72)).heap[w2.heap.size]? = some (.cells #[.int .i64 10, .int .i64 k, .slice na nl nc, .slice aa al ac, .slice (some ⟨bb, oo, none⟩) 2 c] 125 (0, 0)) := by rw [heap_alloc_old _ _ (by simp)]; exact heap_alloc_new w2 _
    have hB : ((w2.alloc (.cells #[.int .i64 10, .int .i64 k, .slice na nl nc, .slice aa al ac, .slice (some ⟨bb, oo, none⟩) 2 c] 125)).alloc (.cells #[.slice qna qnl qnc, .int .i64 ty, .int .i64 cl, .int .i64 opc, .bool rd, .slice fa fl fc] 72)).heap[w2.heap.size + 1]? = some (.cells #[.slice qna qnl qnc, .int .i64 ty, .int .i64 cl, .int .i64 opc, .bool rd, .slice fa fl fc] 72 (0, 0)) := by have := heap_alloc_new (w2.alloc (.cells #[.int .i64 10, .int .i64 k, .slice na nl nc, .slice aa al ac, .slice (some ⟨bb, oo, none⟩) 2 c] 125)) (.cells #[.slice qna qnl qnc, .int .i64 ty, .int .i64 cl, .int .i64 opc, .bool rd, .slice fa fl fc] 72); simpa using this
    have h2 : Fr [] w2 w4 := (((Fr.refl [] w2).alloc _).alloc _).trans h4 (by simp)
    exact ⟨blk_cell (h4.blk hA (by simp)) 4 rfl, blk_cell (h4.blk hB (by simp)) 0 rfl, blk_cell (h4.blk hB (by simp)) 1 rfl, blk_cell (h4.blk hB (by simp)) 2 rfl, blk_cell (h4.blk hB (by simp)) 3 rfl, blk_cell (h4.blk hB (by simp)) 4 rfl, blk_cell (h4.blk hB (by simp)) 5 rfl, h2.cell c00 (by simp), h2.cell c01 (by simp), h2.cell c02 (by simp), h2.cell c03 (by simp), h2.cell c04 (by simp), h2.cell c10 (by simp), h2.cell c11 (by simp), h2.cell c12 (by simp), h2.cell c13 (by simp), h2.cell c14 (by simp)⟩
  clear c00 c01 c02 c03 c04 c10 c11 c12 c13 c14
  have FR3 := Lib.hid (show Fr [] w2 ((w2.alloc (.cells #[.int .i64 10, .int .i64 k, .slice na nl nc, .slice aa al ac, .slice (some ⟨bb, oo, none⟩) 2 c] 125)).alloc (.cells #[.slice qna qnl qnc, .int .i64 ty, .int .i64 cl, .int .i64 opc, .bool rd, .slice fa fl fc] 72)) from ((Fr.refl [] w2).alloc _).alloc _)
  have HF := Lib.hid HF0; clear HF0
  unfold hdPost at HI0 HI1 ⊢
  go_enter Tryd.func79, Tryd.ntmps79
  go_wp2_with fail
  generalize (w2.alloc (.cells #[.int .i64 10, .int .i64 k, .slice na nl nc, .slice aa al ac, .slice (some ⟨bb, oo, none⟩) 2 c] 125)).alloc (.cells #[.slice qna qnl qnc, .int .i64 ty, .int .i64 cl, .int .i64 opc, .bool rd, .slice fa fl fc] 72) = w3 at *
  obtain ⟨f4, q0, q1, q2, q3, q4, q5, c00, c01, c02, c03, c04, c10, c11, c12, c13, c14⟩ := HF.out w3 (Fr.refl _ _)
  have HX0 := Lib.hid (Fr.refl [] w3)
  go_region_held3 (fun w4 => (w4.cell? ⟨w2.heap.size, 4, none⟩ = some (.slice (some ⟨bb, oo, none⟩) 2 c)) ∧ (w4.cell? ⟨w2.heap.size + 1, 0, none⟩ = some (.slice qna qnl qnc)) ∧ (w4.cell? ⟨w2.heap.size + 1, 1, none⟩ = some (.int .i64 ty)) ∧ (w4.cell? ⟨w2.heap.size + 1, 2, none⟩ = some (.int .i64 cl)) ∧ (w4.cell? ⟨w2.heap.size + 1, 3, none⟩ = some (.int .i64 opc)) ∧ (w4.cell? ⟨w2.heap.size + 1, 4, none⟩ = some (.bool rd)) ∧ (w4.cell? ⟨w2.heap.size + 1, 5, none⟩ = some (.slice fa fl fc)) ∧ (w4.cell? ⟨bb, oo, none⟩ = some (.int .i64 op0)) ∧ (w4.cell? ⟨bb, oo + 1, none⟩ = some (.int .i64 k0)) ∧ (w4.cell? ⟨bb, oo + 2, none⟩ = some (.slice na0 nl0 nc0)) ∧ (w4.cell? ⟨bb, oo + 3, none⟩ = some (.slice aa0 al0 ac0)) ∧ (w4.cell? ⟨bb, oo + 4, none⟩ = some (v0)) ∧ (w4.cell? ⟨bb, oo + 5, none⟩ = some (.int .i64 op1)) ∧ (w4.cell? ⟨bb, oo + 5 + 1, none⟩ = some (.int .i64 k1)) ∧ (w4.cell? ⟨bb, oo + 5 + 2, none⟩ = some (.slice na1 nl1 nc1)) ∧ (w4.cell? ⟨bb, oo + 5 + 3, none⟩ = some (.slice aa1 al1 ac1)) ∧ (w4.cell? ⟨bb, oo + 5 + 4, none⟩ = some (v1)))
    (first | exact HF.out _ ((Fr.refl [] w3).drew) | exact HF.out _ HX.out | exact HF.out _ HY.out)
    (first | (go_at_call 79; (with_reducible refine (HI0.out _ FR3.out.drew).mono ?_); rintro e wx ⟨rfl, hfx⟩; have HX := Lib.hid (((Fr.refl [] w3).drew).trans hfx (by simp))) | (go_at_call 79; (with_reducible refine (HI1.out _ (FR3.out.trans HX.out (by simp))).mono ?_); rintro e wy ⟨rfl, hfy⟩; have HY := Lib.hid (HX.out.trans hfy (by simp))) | fail)
  all_goals go_wp2
  all_goals go_ret
  all_goals exact ⟨rfl, FR3.out.trans HY.out (by simp)⟩

set_option maxHeartbeats 8000000 in
set_option maxRecDepth 100000 in
theorem holds10_true (w2 : World) (k : Int) (na : Option Addr) (nl nc : Nat) (aa : Option Addr) (al ac c : Nat) (bb oo : Nat) (_hc : 2 ≤ c)
    (qna : Option Addr) (qnl qnc : Nat) (ty cl opc : Int) (rd : Bool) (fa : Option Addr) (fl fc : Nat)
    (op0 k0 : Int) (na0 : Option Addr) (nl0 nc0 : Nat) (aa0 : Option Addr) (al0 ac0 : Nat) (v0 : Value)
    (c00 : w2.cell? ⟨bb, oo, none⟩ = some (.int .i64 op0))
    (c01 : w2.cell? ⟨bb, oo + 1, none⟩ = some (.int .i64 k0))
    (c02 : w2.cell? ⟨bb, oo + 2, none⟩ = some (.slice na0 nl0 nc0))
    (c03 : w2.cell? ⟨bb, oo + 3, none⟩ = some (.slice aa0 al0 ac0))
    (c04 : w2.cell? ⟨bb, oo + 4, none⟩ = some (v0))
    (HI0 : Hid (∀ w3, Fr [] w2 w3 → Calls Tryd.prog 79 #[.agg #[.int .i64 op0, .int .i64 k0, .slice na0 nl0 nc0, .slice aa0 al0 ac0, v0], .agg #[.slice qna qnl qnc, .int .i64 ty, .int .i64 cl, .int .i64 opc, .bool rd, .slice fa fl fc]] w3 (hdPost w3 true)))
    (op1 k1 : Int) (na1 : Option Addr) (nl1 nc1 : Nat) (aa1 : Option Addr) (al1 ac1 : Nat) (v1 : Value)
    (c10 : w2.cell? ⟨bb, oo + 5, none⟩ = some (.int .i64 op1))
    (c11 : w2.cell? ⟨bb, oo + 5 + 1, none⟩ = some (.int .i64 k1))
    (c12 : w2.cell? ⟨bb, oo + 5 + 2, none⟩ = some (.slice na1 nl1 nc1))
    (c13 : w2.cell? ⟨bb, oo + 5 + 3, none⟩ = some (.slice aa1 al1 ac1))
    (c14 : w2.cell? ⟨bb, oo + 5 + 4, none⟩ = some (v1))
    : Calls Tryd.prog 79 #[.agg #[.int .i64 10, .int .i64 k, .slice na nl nc, .slice aa al ac, .slice (some ⟨bb, oo, none⟩) 2 c], .agg #[.slice qna qnl qnc, .int .i64 ty, .int .i64 cl, .int .i64 opc, .bool rd, .slice fa fl fc]] w2 (hdPost w2 true) := by
  have HF0 : ∀ w4, Fr [] ((w2.alloc (.cells #[.int .i64 10, .int .i64 k, .slice na nl nc, .slice aa al ac, .slice (some ⟨bb, oo, none⟩) 2 c] 125)).alloc (.cells #[.slice qna qnl qnc, .int .i64 ty, .int .i64 cl, .int .i64 opc, .bool rd, .slice fa fl fc] 72)) w4 → (w4.cell? ⟨w2.heap.size, 4, none⟩ = some (.slice (some ⟨bb, oo, none⟩) 2 c)) ∧ (w4.cell? ⟨w2.heap.size + 1, 0, none⟩ = some (.slice qna qnl qnc)) ∧ (w4.cell? ⟨w2.heap.size + 1, 1, none⟩ = some (.int .i64 ty)) ∧ (w4.cell? ⟨w2.heap.size + 1, 2, none⟩ = some (.int .i64 cl)) ∧ (w4.cell? ⟨w2.heap.size + 1, 3, none⟩ = some (.int .i64 opc)) ∧ (w4.cell? ⟨w2.heap.size + 1, 4, none⟩ = some (.bool rd)) ∧ (w4.cell? ⟨w2.heap.size + 1, 5, none⟩ = some (.slice fa fl fc)) ∧ (w4.cell? ⟨bb, oo, none⟩ = some (.int .i64 op0)) ∧ (w4.cell? ⟨bb, oo + 1, none⟩ = some (.int .i64 k0)) ∧ (w4.cell? ⟨bb, oo + 2, none⟩ = some (.slice na0 nl0 nc0)) ∧ (w4.cell? ⟨bb, oo + 3, none⟩ = some (.slice aa0 al0 ac0)) ∧ (w4.cell? ⟨bb, oo + 4, none⟩ = some (v0)) ∧ (w4.cell? ⟨bb, oo + 5, none⟩ = some (.int .i64 op1)) ∧ (w4.cell? ⟨bb, oo + 5 + 1, none⟩ = some (.int .i64 k1)) ∧ (w4.cell? ⟨bb, oo + 5 + 2, none⟩ = some (.slice na1 nl1 nc1)) ∧ (w4.cell? ⟨bb, oo + 5 + 3, none⟩ = some (.slice aa1 al1 ac1)) ∧ (w4.cell? ⟨bb, oo + 5 + 4, none⟩ = some (v1)) := by
    intro w4 h4
    have hA : ((w2.alloc (.cells #[.int .i64 10, .int .i64 k, .slice na nl nc, .slice aa al ac, .slice (some ⟨bb, oo, none⟩) 2 c] 125)).alloc (.cells #[.slice qna qnl qnc, .int .i64 ty, .int .i64 cl, .int .i64 opc, .bool rd, .slice fa fl fc] 72)).heap[w2.heap.size]? = some (.cells #[.int .i64 10, .int .i64 k, .slice na nl nc, .slice aa al ac, .slice (some ⟨bb, oo, none⟩) 2 c] 125 (0, 0)) := by rw [heap_alloc_old _ _ (by simp)]; exact heap_alloc_new w2 _
    have hB : ((w2.alloc (.cells #[.int .i64 10, .int .i64 k, .slice na nl nc, .slice aa al ac, .slice (some ⟨bb, oo, none⟩) 2 c] 125)).alloc (.cells #[.slice qna qnl qnc, .int .i64 ty, .int .i64 cl, .int .i64 opc, .bool rd, .slice fa fl fc] 72)).heap[w2.heap.size + 1]? = some (.cells #[.slice qna qnl qnc, .int .i64 ty, .int .i64 cl, .int .i64 opc, .bool rd, .slice fa fl fc] 72 (0, 0)) := by have := heap_alloc_new (w2.alloc (.cells #[.int .i64 10, .int .i64 k, .slice na nl nc, .slice aa al ac, .slice (some ⟨bb, oo, none⟩) 2 c] 125)) (.cells #[.slice qna qnl qnc, .int .i64 ty, .int .i64 cl, .int .i64 opc, .bool rd, .slice fa fl fc] 72); simpa using this
    have h2 : Fr [] w2 w4 := (((Fr.refl [] w2).alloc _).alloc _).trans h4 (by simp)
    exact ⟨blk_cell (h4.blk hA (by simp)) 4 rfl, blk_cell (h4.blk hB (by simp)) 0 rfl, blk_cell (h4.blk hB (by simp)) 1 rfl, blk_cell (h4.blk hB (by simp)) 2 rfl, blk_cell (h4.blk hB (by simp)) 3 rfl, blk_cell (h4.blk hB (by simp)) 4 rfl, blk_cell (h4.blk hB (by simp)) 5 rfl, h2.cell c00 (by simp), h2.cell c01 (by simp), h2.cell c02 (by simp), h2.cell c03 (by simp), h2.cell c04 (by simp), h2.cell c10 (by simp), h2.cell c11 (by simp), h2.cell c12 (by simp), h2.cell c13 (by simp), h2.cell c14 (by simp)⟩
  clear c00 c01 c02 c03 c04 c10 c11 c12 c13 c14
  have FR3 := Lib.hid (show Fr [] w2 ((w2.alloc (.cells #[.int .i64 10, .int .i64 k, .slice na nl nc, .slice aa al ac, .slice (some ⟨bb, oo, none⟩) 2 c] 125)).alloc (.cells #[.slice qna qnl qnc, .int .i64 ty, .int .i64 cl, .int .i64 opc, .bool rd, .slice fa fl fc] 72)) from ((Fr.refl [] w2).alloc _).alloc _)
  have HF := Lib.hid HF0; clear HF0
  unfold hdPost at HI0 ⊢
  go_enter Tryd.func79, Tryd.ntmps79
  go_wp2_with fail
  generalize (w2.alloc (.cells #[.int .i64 10, .int .i64 k, .slice na nl nc, .slice aa al ac, .slice (some ⟨bb, oo, none⟩) 2 c] 125)).alloc (.cells #[.slice qna qnl qnc, .int .i64 ty, .int .i64 cl, .int .i64 opc, .bool rd, .slice fa fl fc] 72) = w3 at *
  obtain ⟨f4, q0, q1, q2, q3, q4, q5, c00, c01, c02, c03, c04, c10, c11, c12, c13, c14⟩ := HF.out w3 (Fr.refl _ _)
  have HX0 := Lib.hid (Fr.refl [] w3)
  first
    | go_region_with (first | (go_at_call 79; (with_reducible refine (HI0.out _ FR3.out.drew).mono ?_); rintro e wx ⟨rfl, hfx⟩; have HX := Lib.hid (((Fr.refl [] w3).drew).trans hfx (by simp))) | fail)
    | fail
  all_goals go_wp2
  all_goals go_ret
  all_goals exact ⟨rfl, FR3.out.trans HX.out (by simp)⟩

end Go.Proofs.YtgpfkaiinbncnaaDoor
