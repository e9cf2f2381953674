/- slices.Clone at bytes: []uint8: a row of its own that reads as what was cloned; nothing else is turned. -/
import Derived.Test.YtlinembnfcdmcaaDoorRows
import Derived.Test.YtlinembnfcdmcaaDoorInfo
namespace Go.Proofs.YtlinembnfcdmcaaDoor
open Go.RowKit

set_option maxHeartbeats 400000 in
theorem clone_bytes (w : World) (v : Value) (n : Nat) (f : Nat → Int) (hv : RdF w v n (fun j => .int .u8 (f j))) (hn : n ≤ 140737488355328) :
    Calls Tryd.prog 45 #[v] w fun e w' => ∃ v', e = .returned v' ∧ OwnF w' w.heap.size 5 v' n (fun j => .int .u8 (f j)) ∧ Fr [] w w' := by
  have hq := fun (wx : World) (a : Option Addr) (n c : Nat) => Lib.run_eql_slice_nil (P := Tryd.prog) wx 34 5 a n c 0 0 Tryd.underlying34
  rcases hv with ⟨rfl, rfl⟩ | ⟨a, cap, rfl, hnc, hcm, hc⟩
  · go_enter Tryd.func45, Tryd.ntmps45
    go_wp2
    go_ret
    exact ⟨_, rfl, .inl ⟨rfl, rfl⟩, Fr.refl _ _⟩
  · have hr : RdF (w.alloc (.cells #[] 5)) (.slice (some a) n cap) n (fun j => .int .u8 (f j)) := .inr ⟨a, cap, rfl, hnc, hcm, fun j hj => ((Fr.refl [] w).alloc _).cell (hc j hj) (by simp)⟩
    have HR := Lib.hid hr; clear hr hc
    have H0 := Lib.hid (OwnF.of_owns (World.ownsRow_made (base := w.heap.size) (size := 1) (e := 5) w #[] 0 (Nat.le_refl _) (by decide) rfl) (fun j => .int .u8 (f j)) (fun j hj => by omega))
    go_enter Tryd.func45, Tryd.ntmps45
    go_wp2_with (at_builtin; refine wpList_app rfl (.tmp 5) (.tmp 6) 34 rfl 5 infoU8 Tryd.underlying34 rfl H0.out rfl HR.out rfl (fun _ _ => rfl) (by unfold maxLen; omega) (by omega) (by simp) ?_; intro v' w1 hown' hfr _)
    go_ret
    rw [Nat.zero_add] at hown'
    exact ⟨_, rfl, hown'.congr (fun j hj => by simp [app]), ((Fr.refl [] w).alloc _).trans hfr (by intro x hx; simp [Value.ownBlock] at hx; omega)⟩

theorem clone_bytes_pos (w : World) (v : Value) (n : Nat) (f : Nat → Int) (hv : RdF w v n (fun j => .int .u8 (f j))) (hn0 : 0 < n) (hn : n ≤ 140737488355328) :
    Calls Tryd.prog 45 #[v] w fun e w' => ∃ g cap, e = .returned (.slice (some ⟨g, 0, none⟩) n cap) ∧ w.heap.size ≤ g ∧ RowF w' g 5 n cap (fun j => .int .u8 (f j)) ∧ Fr [] w w' :=
  (clone_bytes w v n f hv hn).mono fun e w' ⟨v', he, ho, hf⟩ => by
    obtain ⟨g, cap, rfl, hb, hr⟩ := ho.row hn0
    exact ⟨g, cap, he, hb, hr, hf⟩

end Go.Proofs.YtlinembnfcdmcaaDoor
