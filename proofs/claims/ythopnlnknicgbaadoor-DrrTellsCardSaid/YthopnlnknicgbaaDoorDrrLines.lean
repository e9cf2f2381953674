/- DrrTells: LinesOf of the reference. -/
import Derived.Test.YthopnlnknicgbaaDoorDrrWaited
namespace Go.Proofs.YthopnlnknicgbaaDoor
open Go.RowKit

set_option maxRecDepth 100000 in
set_option maxHeartbeats 4000000 in
theorem linesOf_any (w : World) (a : Option Addr) (n c : Nat) (hn : n ≤ 40) :
    Calls Tryd.prog 25 #[.slice a n c] w fun e w' => ∃ g1 g2, e = .returned (.agg #[.slice a n c, .slice (some ⟨g1, 0, none⟩) n n, .slice (some ⟨g2, 0, none⟩) n n, .int .i64 0, .bool false]) ∧ w.heap.size ≤ g1 ∧ w.heap.size ≤ g2 ∧
      RowF w' g1 3 n n (fun _ => .int .i64 0) ∧ RowF w' g2 22 n n (fun _ => .slice none 0 0) ∧ Fr [] w w' := by
  have hm1 := run_mk (P := Tryd.prog) 48 22 infoRow Tryd.underlying48 n (by omega) (by unfold maxLen; omega)
  have hm2 := run_mk (P := Tryd.prog) 22 3 infoInt Tryd.underlying22 n (by omega) (by unfold maxLen; omega)
  have hb0 := heap_alloc_new w (.cells #[.slice none 0 0, .slice none 0 0, .slice none 0 0, .int .i64 0, .bool false] 50)
  go_enter Tryd.func25, Tryd.ntmps25
  go_wp2_with fail
  go_region
  · have hb := ((((Fr.refl [] _).alloc (.cells (madeCells #[.int .i64 0] n) 3)).alloc (.cells (madeCells #[.slice none 0 0] n) 22)).drew).blk (heap_alloc_new w (.cells #[.slice a n c, .slice (some ⟨w.heap.size + 1, 0, none⟩) n n, .slice (some ⟨w.heap.size + 1 + 1, 0, none⟩) n n, .int .i64 0, .bool false] 50)) (by simp)
    obtain ⟨e0, e1, e2, e3, e4⟩ := box5 hb
    have f0 : Fr [] w (((w.alloc (.cells #[.slice a n c, .slice (some ⟨w.heap.size + 1, 0, none⟩) n n, .slice (some ⟨w.heap.size + 1 + 1, 0, none⟩) n n, .int .i64 0, .bool false] 50)).alloc (.cells (madeCells #[.int .i64 0] n) 3)).alloc (.cells (madeCells #[.slice none 0 0] n) 22)).drew := ((((Fr.refl [] w).alloc _).alloc _).alloc _).drew
    have r1 := ((row_mk (w.alloc (.cells #[.slice a n c, .slice (some ⟨w.heap.size + 1, 0, none⟩) n n, .slice (some ⟨w.heap.size + 1 + 1, 0, none⟩) n n, .int .i64 0, .bool false] 50)) 3 (.int .i64 0) rfl n (by unfold maxLen; omega)).alloc (.cells (madeCells #[.slice none 0 0] n) 22)).kept ((Fr.refl [] _).drew) (by simp)
    have r2 := (row_mk ((w.alloc (.cells #[.slice a n c, .slice (some ⟨w.heap.size + 1, 0, none⟩) n n, .slice (some ⟨w.heap.size + 1 + 1, 0, none⟩) n n, .int .i64 0, .bool false] 50)).alloc (.cells (madeCells #[.int .i64 0] n) 3)) 22 (.slice none 0 0) rfl n (by unfold maxLen; omega)).kept ((Fr.refl [] _).drew) (by simp)
    simp only [World.size_alloc] at r1 r2
    have HF := Lib.hid f0
    have HR1 := Lib.hid r1
    have HR2 := Lib.hid r2
    clear f0 r1 r2 hb hm1 hm2 hb0
    go_wp2
    exact bodyPost_ret (v := .agg #[.slice a n c, .slice (some ⟨w.heap.size + 1, 0, none⟩) n n, .slice (some ⟨w.heap.size + 1 + 1, 0, none⟩) n n, .int .i64 0, .bool false]) (by simp [results, Tryd.results25, go_sem, e0, e1, e2, e3, e4]) rfl ⟨_, _, rfl, by omega, by omega, HR1.out, HR2.out, HF.out⟩
  · have hb := ((((Fr.refl [] _).alloc (.cells (madeCells #[.slice none 0 0] n) 22)).alloc (.cells (madeCells #[.int .i64 0] n) 3)).drew).blk (heap_alloc_new w (.cells #[.slice a n c, .slice (some ⟨w.heap.size + 1 + 1, 0, none⟩) n n, .slice (some ⟨w.heap.size + 1, 0, none⟩) n n, .int .i64 0, .bool false] 50)) (by simp)
    obtain ⟨e0, e1, e2, e3, e4⟩ := box5 hb
    have f0 : Fr [] w (((w.alloc (.cells #[.slice a n c, .slice (some ⟨w.heap.size + 1 + 1, 0, none⟩) n n, .slice (some ⟨w.heap.size + 1, 0, none⟩) n n, .int .i64 0, .bool false] 50)).alloc (.cells (madeCells #[.slice none 0 0] n) 22)).alloc (.cells (madeCells #[.int .i64 0] n) 3)).drew := ((((Fr.refl [] w).alloc _).alloc _).alloc _).drew
    have r1 := ((row_mk (w.alloc (.cells #[.slice a n c, .slice (some ⟨w.heap.size + 1 + 1, 0, none⟩) n n, .slice (some ⟨w.heap.size + 1, 0, none⟩) n n, .int .i64 0, .bool false] 50)) 22 (.slice none 0 0) rfl n (by unfold maxLen; omega)).alloc (.cells (madeCells #[.int .i64 0] n) 3)).kept ((Fr.refl [] _).drew) (by simp)
    have r2 := (row_mk ((w.alloc (.cells #[.slice a n c, .slice (some ⟨w.heap.size + 1 + 1, 0, none⟩) n n, .slice (some ⟨w.heap.size + 1, 0, none⟩) n n, .int .i64 0, .bool false] 50)).alloc (.cells (madeCells #[.slice none 0 0] n) 22)) 3 (.int .i64 0) rfl n (by unfold maxLen; omega)).kept ((Fr.refl [] _).drew) (by simp)
    simp only [World.size_alloc] at r1 r2
    have HF := Lib.hid f0
    have HR1 := Lib.hid r1
    have HR2 := Lib.hid r2
    clear f0 r1 r2 hb hm1 hm2 hb0
    go_wp2
    exact bodyPost_ret (v := .agg #[.slice a n c, .slice (some ⟨w.heap.size + 1 + 1, 0, none⟩) n n, .slice (some ⟨w.heap.size + 1, 0, none⟩) n n, .int .i64 0, .bool false]) (by simp [results, Tryd.results25, go_sem, e0, e1, e2, e3, e4]) rfl ⟨_, _, rfl, by omega, by omega, HR2.out, HR1.out, HF.out⟩

end Go.Proofs.YthopnlnknicgbaaDoor
