/- rule.Check, rule.Holds. -/
import Derived.Test.YtgpfkaiinbncnaaDoorRead
namespace Go.Proofs.YtgpfkaiinbncnaaDoor
open Go.RowKit

/-- a rule -/
structure Rl where
  a : Option Addr
  n : Nat
  c : Nat
  M : Nat → Mt
  act : Int

def Rl.F (r : Rl) : Nat → Value
  | 0 => .slice r.a r.n r.c
  | _ => .int .i64 r.act

structure Rl.Ok (W : World) (r : Rl) : Prop where
  rd : RdC W (.slice r.a r.n r.c) 4 r.n (fun j => (r.M j).F)
  ok : ∀ j, j < r.n → (r.M j).Ok W
  hc : r.n ≤ r.c ∧ r.c ≤ maxLen
  act0 : -9223372036854775808 ≤ r.act ∧ r.act ≤ 9223372036854775807

theorem Rl.Ok.fr {W w : World} {r : Rl} (h : r.Ok W) (hf : Fr [] W w) : r.Ok w := ⟨h.rd.fr hf, fun j hj => (h.ok j hj).fr hf, h.hc, h.act0⟩

/-- its fault; does it hold? -/
def rf (r : Rl) : Int := rdFault r.M r.n
def rh (r : Rl) (q : Qt) : Bool := stB r.M q r.n 0

theorem erV0 {z : Int} (h : z = 0) : erVn z = .nilIface := by unfold erVn; rw [if_pos h]
theorem erV1 {z : Int} (h : z ≠ 0) : erVn z = .iface 27 (.int .i64 z) := by unfold erVn; rw [if_neg h]

theorem read_bad {W : World} {r : Rl} (h : r.Ok W) (hz : rf r ≠ 0) (w : World) (hf : Fr [] W w) :
    Calls Tryd.prog 75 #[.slice r.a r.n r.c] w fun e w' => e = .returned (.tuple #[.agg #[.int .i64 0, .int .i64 0, .slice none 0 0, .slice none 0 0, .slice none 0 0], .iface 27 (.int .i64 (rf r))]) ∧ Fr [] w w' := by
  refine (read_any w r.a r.n r.c r.M (h.rd.fr hf) (fun j hj => (h.ok j hj).fr hf) h.hc).mono ?_
  rintro e w' ⟨h1 | h1, h2⟩
  · exact ⟨h1.2, h2⟩
  · exact absurd h1.1 hz

def rdGood (W : World) (r : Rl) : Ending → World → Prop := fun e w' => ∃ (m : Mt) (a : Option Addr) (n c : Nat), e = .returned (.tuple #[.agg #[.int .i64 m.op, .int .i64 m.k, .slice m.na m.nl m.nc, .slice m.aa m.al m.ac, .slice a n c], .nilIface]) ∧
  (∀ q : Qt, q.Ok W → ∀ w2, Fr [] w' w2 → Calls Tryd.prog 79 #[.agg #[.int .i64 m.op, .int .i64 m.k, .slice m.na m.nl m.nc, .slice m.aa m.al m.ac, .slice a n c], q.agg] w2 (hdPost w2 (rh r q))) ∧ Fr [] W w'

theorem read_good {W : World} {r : Rl} (h : r.Ok W) (hz : rf r = 0) (w : World) (hf : Fr [] W w) : Calls Tryd.prog 75 #[.slice r.a r.n r.c] w (rdGood w r) := by
  refine (read_any w r.a r.n r.c r.M (h.rd.fr hf) (fun j hj => (h.ok j hj).fr hf) h.hc).mono ?_
  rintro e w' ⟨h1 | h1, h2⟩
  · exact absurd hz h1.1
  · obtain ⟨_, m, v, rfl, hn⟩ := h1
    obtain ⟨a, n, c, rfl⟩ := (hn ⟨none, 0, 0, fun _ => .empty, 0, 0, 0, false, none, 0, 0, fun _ => 0⟩).isSlice
    exact ⟨m, a, n, c, rfl, fun q hq w2 hf2 => holds_any (h2.below _ (Nat.le_refl _) (by simp)) hq (hn q) w2 hf2, h2⟩

set_option maxHeartbeats 2000000 in
set_option maxRecDepth 100000 in
theorem ruleCheck_any {W : World} {r : Rl} (h : r.Ok W) (w : World) (hf : Fr [] W w) : Calls Tryd.prog 59 #[.slice r.a r.n r.c] w fun e w' => e = .returned (erVn (rf r)) ∧ Fr [] w w' := by
  by_cases hz : rf r = 0
  · have HC := Lib.hid (read_good h hz w hf)
    rw [erV0 hz]
    clear hz h
    go_enter Tryd.func59, Tryd.ntmps59
    go_wp2_with (go_at_call 75; refine HC.out.mono ?_; rintro e wx ⟨m, a, n, c, rfl, -, hfx⟩)
    go_ret
    exact ⟨rfl, hfx.alloc _⟩
  · have HC := Lib.hid (read_bad h hz w hf)
    rw [erV1 hz]
    clear hz h
    generalize rf r = z at *
    go_enter Tryd.func59, Tryd.ntmps59
    go_wp2_with (go_at_call 75; refine HC.out.mono ?_; rintro e wx ⟨rfl, hfx⟩)
    go_ret
    exact ⟨rfl, hfx.alloc _⟩

set_option maxHeartbeats 2000000 in
set_option maxRecDepth 100000 in
theorem ruleHolds_bad {W : World} {r : Rl} {q : Qt} (h : r.Ok W) (hz : rf r ≠ 0) (w : World) (hf : Fr [] W w) :
    Calls Tryd.prog 61 #[.slice r.a r.n r.c, q.agg] w fun e w' => e = .returned (.tuple #[.bool false, .iface 27 (.int .i64 (rf r))]) ∧ Fr [] w w' := by
  have HC := Lib.hid (fun w1 (h1 : Fr [] w w1) => read_bad h hz w1 (hf.trans h1 (by simp)))
  clear hz h hf
  generalize rf r = z at *
  unfold Qt.agg
  go_enter Tryd.func61, Tryd.ntmps61
  go_wp2_with (go_at_call 75; refine (HC.out _ ((Fr.refl [] w).alloc _)).mono ?_; rintro e wx ⟨rfl, hfx⟩)
  go_ret2
  exact ⟨rfl, (((Fr.refl [] w).alloc _).trans hfx (by simp)).alloc _⟩

set_option maxHeartbeats 4000000 in
set_option maxRecDepth 100000 in
theorem ruleHolds_good {W : World} {r : Rl} {q : Qt} (h : r.Ok W) (hq : q.Ok W) (hz : rf r = 0) (w : World) (hf : Fr [] W w) :
    Calls Tryd.prog 61 #[.slice r.a r.n r.c, q.agg] w fun e w' => e = .returned (.tuple #[.bool (rh r q), .nilIface]) ∧ Fr [] w w' := by
  have HC := Lib.hid (fun w1 (h1 : Fr [] w w1) => read_good h hz w1 (hf.trans h1 (by simp)))
  have HQ := Lib.hid (hq.fr hf)
  clear hz h hf hq
  obtain ⟨qna, qnl, qnc, qnm, ty, cl, opc, rd, fa, fl, fc, ff⟩ := q
  have hbq : ∀ w4, Fr [] (w.alloc (.cells #[.slice qna qnl qnc, .int .i64 ty, .int .i64 cl, .int .i64 opc, .bool rd, .slice fa fl fc] 72)) w4 → (w4.cell? ⟨w.heap.size, 0, none⟩ = some (.slice qna qnl qnc)) ∧ (w4.cell? ⟨w.heap.size, 1, none⟩ = some (.int .i64 ty)) ∧ (w4.cell? ⟨w.heap.size, 2, none⟩ = some (.int .i64 cl)) ∧ (w4.cell? ⟨w.heap.size, 3, none⟩ = some (.int .i64 opc)) ∧ (w4.cell? ⟨w.heap.size, 4, none⟩ = some (.bool rd)) ∧ (w4.cell? ⟨w.heap.size, 5, none⟩ = some (.slice fa fl fc)) := fun w4 h4 => by
    have hA := h4.blk (heap_alloc_new w (.cells #[.slice qna qnl qnc, .int .i64 ty, .int .i64 cl, .int .i64 opc, .bool rd, .slice fa fl fc] 72)) (by simp)
    exact ⟨blk_cell hA 0 rfl, blk_cell hA 1 rfl, blk_cell hA 2 rfl, blk_cell hA 3 rfl, blk_cell hA 4 rfl, blk_cell hA 5 rfl⟩
  have HBQ := Lib.hid hbq; clear hbq
  generalize hrr : rh r _ = res at *
  unfold Qt.agg
  go_enter Tryd.func61, Tryd.ntmps61
  have HR := Lib.hid hrr; clear hrr
  go_wp2_with (first
    | (go_at_call 75; go_must (refine (HC.out _ ((Fr.refl [] w).alloc _)).mono ?_; rintro e wx ⟨m, a, n, c, rfl, hh, hfx⟩; have HX := Lib.hid hfx; have HH := Lib.hid (fun w2 h2 => hh _ (HQ.out.fr ((Fr.refl [] w).alloc _)) w2 h2); clear hh hfx; obtain ⟨x0, x1, x2, x3, x4, x5⟩ := HBQ.out _ HX.out; have hsz : w.heap.size < wx.heap.size := by { have := HX.out.size; simp at this; omega }; unfold Qt.agg hdPost at HH; rw [HR.out] at HH))
    | (go_at_call 79; go_must (refine (HH.out _ ((Fr.refl [] wx).alloc _)).mono ?_; rintro e wy ⟨rfl, hfy⟩)))
  go_ret2
  exact ⟨rfl, (((Fr.refl [] w).alloc _).trans HX.out (by simp)).trans ((((Fr.refl [] wx).alloc _).trans hfy (by simp))) (by simp)⟩

end Go.Proofs.YtgpfkaiinbncnaaDoor
