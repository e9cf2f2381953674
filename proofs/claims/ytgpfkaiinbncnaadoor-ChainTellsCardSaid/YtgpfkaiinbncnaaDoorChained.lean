/- The laws' fixed call: two rules, at a query of zeros. -/
import Derived.Test.YtgpfkaiinbncnaaDoorChain
namespace Go.Proofs.YtgpfkaiinbncnaaDoor
open Go.RowKit

def mAsks : Mt := ⟨6, 0, none, 0, 0, fun _ => .empty, none, 0, 0, fun _ => 0⟩
def mAll : Mt := ⟨1, 0, none, 0, 0, fun _ => .empty, none, 0, 0, fun _ => 0⟩
def q0 : Qt := ⟨none, 0, 0, fun _ => .empty, 0, 0, 0, false, none, 0, 0, fun _ => 0⟩
def R2 (b c : Nat) (k : Nat) : Rl := if k = 0 then ⟨some ⟨b, 0, none⟩, 1, 1, fun _ => mAsks, 0⟩ else ⟨some ⟨c, 0, none⟩, 1, 1, fun _ => mAll, 5⟩

theorem q0_ok (w : World) : q0.Ok w := ⟨.inl ⟨rfl, rfl⟩, .inl ⟨rfl, rfl⟩, fun j hj => absurd hj (Nat.not_lt_zero j), fun j hj => absurd hj (Nat.not_lt_zero j), by decide⟩
theorem mAsks_ok (w : World) : mAsks.Ok w := ⟨by decide, by decide, .inl ⟨rfl, rfl⟩, .inl ⟨rfl, rfl⟩, fun j hj => absurd hj (Nat.not_lt_zero j), fun j hj => absurd hj (Nat.not_lt_zero j)⟩
theorem mAll_ok (w : World) : mAll.Ok w := ⟨by decide, by decide, .inl ⟨rfl, rfl⟩, .inl ⟨rfl, rfl⟩, fun j hj => absurd hj (Nat.not_lt_zero j), fun j hj => absurd hj (Nat.not_lt_zero j)⟩

theorem rdc_blk {w : World} {b : Nat} {cs : Array Value} {E : TypeId} {s n : Nat} {F : Nat → Nat → Value} (h : w.heap[b]? = some (.cells cs E (0, 0))) (hm : n ≤ maxLen) (hc : ∀ j, j < n * s → cs[j]? = some (fls s F j)) : RdC w (.slice (some ⟨b, 0, none⟩) n n) s n F := by
  refine .inr ⟨_, n, rfl, Nat.le_refl _, hm, fun j hj => ?_⟩
  have e : (⟨b, 0, none⟩ : Addr).add j = ⟨b, j, none⟩ := by unfold Addr.add; split <;> simp_all
  rw [e]
  exact blk_cell h j (hc j hj)

theorem R2_bad (b c : Nat) (k : Nat) : rf (R2 b c k) = 0 := by
  unfold R2
  by_cases h : k = 0
  · rw [if_pos h]; exact (show rdFault (fun _ => mAsks) 1 = 0 by decide)
  · rw [if_neg h]; exact (show rdFault (fun _ => mAll) 1 = 0 by decide)
theorem R2_z (b c : Nat) : chZ (R2 b c) 2 = 0 := chZ_zero.2 ⟨by decide, fun k _ => R2_bad b c k⟩
theorem R2_i (b c : Nat) : fiI (R2 b c) q0 2 = 1 := by
  have h : ffst (hd (R2 b c) q0) 2 = 1 := ffst_is (by decide) rfl (fun j hj => by
    have hj' : j < 1 := hj
    obtain rfl : j = 0 := by omega
    rfl)
  unfold fiI
  rw [if_pos (R2_z b c), h]
  rfl

theorem R2_rls {w : World} {b c d : Nat} (hb : w.heap[b]? = some (.cells #[.int .i64 6, .int .i64 0, .slice none 0 0, .slice none 0 0] 105 (0, 0))) (hc : w.heap[c]? = some (.cells #[.int .i64 1, .int .i64 0, .slice none 0 0, .slice none 0 0] 105 (0, 0)))
    (hd : w.heap[d]? = some (.cells #[.slice (some ⟨b, 0, none⟩) 1 1, .int .i64 0, .slice (some ⟨c, 0, none⟩) 1 1, .int .i64 5] 79 (0, 0))) : Rls w (some ⟨d, 0, none⟩) 2 2 (R2 b c) := by
  refine ⟨rdc_blk hd (by decide) fun j hj => ?_, fun j hj => ?_, by decide⟩
  · match j, hj with
    | 0, _ => rfl
    | 1, _ => rfl
    | 2, _ => rfl
    | 3, _ => rfl
  · unfold R2
    by_cases h : j = 0
    · rw [if_pos h]
      refine ⟨rdc_blk hb (show 1 ≤ maxLen by decide) fun j hj => ?_, fun _ _ => mAsks_ok w, (show 1 ≤ 1 ∧ 1 ≤ maxLen by decide), (show -9223372036854775808 ≤ (0 : Int) ∧ (0 : Int) ≤ 9223372036854775807 by decide)⟩
      match j, hj with
      | 0, _ => rfl
      | 1, _ => rfl
      | 2, _ => rfl
      | 3, _ => rfl
    · rw [if_neg h]
      refine ⟨rdc_blk hc (show 1 ≤ maxLen by decide) fun j hj => ?_, fun _ _ => mAll_ok w, (show 1 ≤ 1 ∧ 1 ≤ maxLen by decide), (show -9223372036854775808 ≤ (5 : Int) ∧ (5 : Int) ≤ 9223372036854775807 by decide)⟩
      match j, hj with
      | 0, _ => rfl
      | 1, _ => rfl
      | 2, _ => rfl
      | 3, _ => rfl

theorem first_two (w : World) (b c d : Nat) (hb : w.heap[b]? = some (.cells #[.int .i64 6, .int .i64 0, .slice none 0 0, .slice none 0 0] 105 (0, 0))) (hc : w.heap[c]? = some (.cells #[.int .i64 1, .int .i64 0, .slice none 0 0, .slice none 0 0] 105 (0, 0)))
    (hd : w.heap[d]? = some (.cells #[.slice (some ⟨b, 0, none⟩) 1 1, .int .i64 0, .slice (some ⟨c, 0, none⟩) 1 1, .int .i64 5] 79 (0, 0))) :
    Calls Tryd.prog 39 #[.slice (some ⟨d, 0, none⟩) 2 2, .agg #[.slice none 0 0, .int .i64 0, .int .i64 0, .int .i64 0, .bool false, .slice none 0 0]] w fun e w' => e = .returned (.tuple #[.int .i64 1, .nilIface]) ∧ Fr [] w w' := by
  have h := chainFirst_good w _ 2 2 (R2 b c) q0 (R2_rls hb hc hd) (q0_ok w) (R2_z b c)
  rw [R2_i] at h
  exact h

set_option maxHeartbeats 4000000 in
set_option maxRecDepth 100000 in
theorem chained_any (w : World) : Calls Tryd.prog 35 #[] w fun e w' => e = .returned (.bool true) ∧ Fr [] w w' := by
  have HF := Lib.hid (show Fr [] w (((w.alloc (.cells #[.int .i64 6, .int .i64 0, .slice none 0 0, .slice none 0 0] 105)).alloc (.cells #[.int .i64 1, .int .i64 0, .slice none 0 0, .slice none 0 0] 105)).alloc (.cells #[.slice (some ⟨w.heap.size, 0, none⟩) 1 1, .int .i64 0, .slice (some ⟨w.heap.size + 1, 0, none⟩) 1 1, .int .i64 5] 79)) from (((Fr.refl [] w).alloc _).alloc _).alloc _)
  have HC := Lib.hid (first_two (((w.alloc (.cells #[.int .i64 6, .int .i64 0, .slice none 0 0, .slice none 0 0] 105)).alloc (.cells #[.int .i64 1, .int .i64 0, .slice none 0 0, .slice none 0 0] 105)).alloc (.cells #[.slice (some ⟨w.heap.size, 0, none⟩) 1 1, .int .i64 0, .slice (some ⟨w.heap.size + 1, 0, none⟩) 1 1, .int .i64 5] 79)) w.heap.size (w.heap.size + 1) (w.heap.size + 1 + 1)
    (by rw [heap_alloc_old _ _ (by simp; omega), heap_alloc_old _ _ (by simp)]; exact heap_alloc_new w _)
    (by rw [heap_alloc_old _ _ (by simp)]; have := heap_alloc_new (w.alloc (.cells #[.int .i64 6, .int .i64 0, .slice none 0 0, .slice none 0 0] 105)) (.cells #[.int .i64 1, .int .i64 0, .slice none 0 0, .slice none 0 0] 105); simpa using this)
    (by have := heap_alloc_new ((w.alloc (.cells #[.int .i64 6, .int .i64 0, .slice none 0 0, .slice none 0 0] 105)).alloc (.cells #[.int .i64 1, .int .i64 0, .slice none 0 0, .slice none 0 0] 105)) (.cells #[.slice (some ⟨w.heap.size, 0, none⟩) 1 1, .int .i64 0, .slice (some ⟨w.heap.size + 1, 0, none⟩) 1 1, .int .i64 5] 79); simpa using this))
  go_enter Tryd.func35, Tryd.ntmps35
  go_wp2_with (go_at_call 39; refine HC.out.mono ?_; rintro e wx ⟨rfl, hfx⟩)
  go_ret
  exact ⟨rfl, HF.out.trans hfx (by simp)⟩

end Go.Proofs.YtgpfkaiinbncnaaDoor
