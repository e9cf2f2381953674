/- slices.Clone at []int: a row of its own that reads as what was cloned; nothing else is turned. -/
import Derived.Test.YtgpfkaiinbncnaaDoorRows
import Derived.Test.YtgpfkaiinbncnaaDoorInfo
namespace Go.Proofs.YtgpfkaiinbncnaaDoor
open Go.RowKit

set_option maxHeartbeats 400000 in
theorem clone_ints (w : World) (v : Value) (n : Nat) (f : Nat → Int) (hv : RdF w v n (fun j => .int .i64 (f j))) (hn : n * 8 ≤ 140737488355328) :
    Calls Tryd.prog 64 #[v] w fun e w' => ∃ v', e = .returned v' ∧ OwnF w' w.heap.size 3 v' n (fun j => .int .i64 (f j)) ∧ Fr [] w w' := by
  have hq := fun (wx : World) (a : Option Addr) (n c : Nat) => Lib.run_eql_slice_nil (P := Tryd.prog) wx 28 3 a n c 0 0 Tryd.underlying28
  rcases hv with ⟨rfl, rfl⟩ | ⟨a, cap, rfl, hnc, hcm, hc⟩
  · go_enter Tryd.func64, Tryd.ntmps64
    go_wp2
    go_ret
    exact ⟨_, rfl, .inl ⟨rfl, rfl⟩, Fr.refl _ _⟩
  · have hr : RdF (w.alloc (.cells #[] 3)) (.slice (some a) n cap) n (fun j => .int .i64 (f j)) := .inr ⟨a, cap, rfl, hnc, hcm, fun j hj => ((Fr.refl [] w).alloc _).cell (hc j hj) (by simp)⟩
    have HR := Lib.hid hr; clear hr hc
    have H0 := Lib.hid (OwnF.of_owns (World.ownsRow_made (base := w.heap.size) (size := 1) (e := 3) w #[] 0 (Nat.le_refl _) (by decide) rfl) (fun j => .int .i64 (f j)) (fun j hj => by omega))
    go_enter Tryd.func64, Tryd.ntmps64
    go_wp2_with (at_builtin; refine wpList_app rfl (.tmp 5) (.tmp 6) 28 rfl 3 infoInt Tryd.underlying28 rfl H0.out rfl HR.out rfl (fun _ _ => rfl) (by unfold maxLen; omega) (by omega) (by simp) ?_; intro v' w1 hown' hfr _)
    go_ret
    rw [Nat.zero_add] at hown'
    exact ⟨_, rfl, hown'.congr (fun j hj => by simp [app]), ((Fr.refl [] w).alloc _).trans hfr (by intro x hx; simp [Value.ownBlock] at hx; omega)⟩

theorem clone_pos (w : World) (v : Value) (n : Nat) (f : Nat → Int) (hv : RdF w v n (fun j => .int .i64 (f j))) (hn0 : 0 < n) (hn : n * 8 ≤ 140737488355328) :
    Calls Tryd.prog 64 #[v] w fun e w' => ∃ g cap, e = .returned (.slice (some ⟨g, 0, none⟩) n cap) ∧ w.heap.size ≤ g ∧ RowI w' g n cap f ∧ Fr [] w w' :=
  (clone_ints w v n f hv hn).mono fun e w' ⟨v', he, ho, hf⟩ => by
    obtain ⟨g, cap, rfl, hb, hr⟩ := ho.row hn0
    exact ⟨g, cap, he, hb, hr, hf⟩

end Go.Proofs.YtgpfkaiinbncnaaDoor
