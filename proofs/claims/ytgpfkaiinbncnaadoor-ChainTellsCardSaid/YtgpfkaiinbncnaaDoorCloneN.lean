/- slices.Clone at []node: a row of its own that reads as what was cloned; nothing else is turned. -/
import Derived.Test.YtgpfkaiinbncnaaDoorCellsApp
import Derived.Test.YtgpfkaiinbncnaaDoorInfo
namespace Go.Proofs.YtgpfkaiinbncnaaDoor
open Go.RowKit

theorem infoNode : (Tryd.prog.info? 125).map (fun i => (i.zero, i.size, i.bytes)) = some (some (.agg #[.int .i64 0, .int .i64 0, .slice none 0 0, .slice none 0 0, .slice none 0 0]), 5, 88) := by kernel_rfl

theorem rowc_made {w : World} {E : TypeId} {s : Nat} {F : Nat → Nat → Value} : OwnC (w.alloc (.cells #[] E)) w.heap.size E (.slice (some ⟨w.heap.size, 0, none⟩) 0 0) s 0 F :=
  .inr ⟨w.heap.size, 0, rfl, Nat.le_refl _, #[], heap_alloc_new w _, by simp, Nat.le_refl _, by decide, fun j hj => by omega⟩

set_option maxHeartbeats 400000 in
theorem clone_nodes (w : World) (v : Value) (n : Nat) (F : Nat → Nat → Value) (hv : RdC w v 5 n F) (hone : ∀ i c, i < n → c < 5 → (F i c).oneCell' = true) (hn : n * 88 ≤ 140737488355328) :
    Calls Tryd.prog 90 #[v] w fun e w' => ∃ v', e = .returned v' ∧ OwnC w' w.heap.size 125 v' 5 n F ∧ Fr [] w w' := by
  have hq := fun (wx : World) (a : Option Addr) (n c : Nat) => Lib.run_eql_slice_nil (P := Tryd.prog) wx 123 125 a n c 0 0 Tryd.underlying123
  rcases hv with ⟨rfl, rfl⟩ | ⟨a, cap, rfl, hnc, hcm, hc⟩
  · go_enter Tryd.func90, Tryd.ntmps90
    go_wp2
    go_ret
    exact ⟨_, rfl, .inl ⟨rfl, rfl⟩, Fr.refl _ _⟩
  · have hr : RdC (w.alloc (.cells #[] 125)) (.slice (some a) n cap) 5 n F := .inr ⟨a, cap, rfl, hnc, hcm, fun j hj => ((Fr.refl [] w).alloc _).cell (hc j hj) (by simp)⟩
    have HR := Lib.hid hr; clear hr hc
    have HO := Lib.hid (show ∀ j, j < n * 5 → (fls 5 F j).oneCell' = true from fun j hj => hone _ _ (div_lt' hj) (Nat.mod_lt _ (by decide))); clear hone
    have H0 := Lib.hid (rowc_made (w := w) (E := 125) (s := 5) (F := F))
    go_enter Tryd.func90, Tryd.ntmps90
    go_wp2_with (at_builtin; refine wpList_appC rfl (.tmp 5) (.tmp 6) 123 rfl 125 infoNode Tryd.underlying123 rfl (by decide) HO.out H0.out rfl HR.out rfl (by unfold maxLen; omega) (by omega) (by simp) ?_; intro v' w1 hown' hfr _)
    go_ret
    rw [Nat.zero_add] at hown'
    exact ⟨_, rfl, hown'.congr (by decide) (fun j c hj _ => by simp [appC]), ((Fr.refl [] w).alloc _).trans hfr (by intro x hx; simp [Value.ownBlock] at hx; omega)⟩

end Go.Proofs.YtgpfkaiinbncnaaDoor
