/- replay: New, See, Top: what each does. -/
import Derived.Test.YtlinembnfcdmcaaDoorInfo
import Derived.Test.YtlinembnfcdmcaaDoorReplayLaw
namespace Go.Proofs.YtlinembnfcdmcaaDoor
open Go.RowKit

structure Win (w : World) (p g n : Nat) (f : Nat → Int) (top : Int) : Prop where
  blk : w.heap[p]? = some (.cells #[.slice (some ⟨g, 0, none⟩) n n, .int .i64 top] 73 (0, 0))
  row : RowI w g n n f
  hp : p ≠ g

theorem Win.kept {w w' : World} {p g n : Nat} {f : Nat → Int} {top : Int} {S : List Nat} (h : Win w p g n f top) (hf : Fr S w w') (hn : p ∉ S ∧ g ∉ S) : Win w' p g n f top :=
  ⟨hf.blk h.blk hn.1, h.row.kept hf hn.2, h.hp⟩

theorem blk_put1 {w : World} {p : Nat} {x y : Value} {T : TypeId} (h : w.heap[p]? = some (.cells #[x, y] T (0, 0))) (u : Value) :
    (w.setCell ⟨p, 1, none⟩ u).heap[p]? = some (.cells #[x, u] T (0, 0)) := by
  simp only [World.setCell]
  rw [Array.getElem?_modify, if_pos rfl, h]
  rfl

theorem Win.take {w : World} {p g n : Nat} {f : Nat → Int} {top : Int} (h : Win w p g n f top) (i : Nat) (x t : Int) :
    (w.cell? ⟨p, 1, none⟩ = some (.int .i64 top) ∧ (w.setCell ⟨g, i, none⟩ (.int .i64 x)).cell? ⟨p, 1, none⟩ = some (.int .i64 top) ∧ (w.setCell ⟨g, i, none⟩ (.int .i64 x)).frozen? ⟨p, 1, none⟩ = false) ∧
      Win ((w.setCell ⟨g, i, none⟩ (.int .i64 x)).setCell ⟨p, 1, none⟩ (.int .i64 t)) p g n (fun j => if j = i then x else f j) t ∧
      Fr [p, g] w ((w.setCell ⟨g, i, none⟩ (.int .i64 x)).setCell ⟨p, 1, none⟩ (.int .i64 t)) := by
  have fa : Fr [g] w (w.setCell ⟨g, i, none⟩ (.int .i64 x)) := (Fr.refl [g] w).setCell (by simp) _
  have b1 := fa.blk h.blk (by simpa using h.hp)
  have fb : Fr [p] (w.setCell ⟨g, i, none⟩ (.int .i64 x)) ((w.setCell ⟨g, i, none⟩ (.int .i64 x)).setCell ⟨p, 1, none⟩ (.int .i64 t)) := (Fr.refl [p] _).setCell (by simp) _
  refine ⟨⟨blk_cell h.blk 1 rfl, blk_cell b1 1 rfl, blk_frozen b1 1⟩, ⟨blk_put1 b1 _, ?_, h.hp⟩, (fa.mono (S' := [p, g]) (by simp)).trans fb (by simp)⟩
  exact ((h.row.stored i (.int .i64 x)).kept fb (by simpa using h.hp.symm)).congr (fun j hj => by by_cases hji : j = i <;> simp_all)

def WOk (n : Int) : Prop := 1 ≤ n ∧ n ≤ 1000

set_option maxRecDepth 100000 in
set_option maxHeartbeats 2000000 in
theorem replay_new (w : World) (n : Int) : Calls Tryd.prog 10 #[.int .i64 n] w fun e w' => Fr [] w w' ∧
    ((WOk n ∧ ∃ p g, e = .returned (.tuple #[.pointer (some ⟨p, 0, none⟩), .nilIface]) ∧ w.heap.size ≤ p ∧ w.heap.size ≤ g ∧ Win w' p g n.toNat (fun _ => -1) (-1)) ∨
    (¬ WOk n ∧ e = .returned (.tuple #[.pointer none, .iface 30 (.int .i64 6)]))) := by
  by_cases hok : WOk n
  · have HOK := Lib.hid hok
    unfold WOk at hok
    have hmk := run_mk (P := Tryd.prog) 22 3 infoInt Tryd.underlying22 n.toNat (by omega) (by unfold maxLen; omega)
    obtain ⟨m, rfl⟩ : ∃ m : Nat, n = (m : Int) := ⟨n.toNat, by omega⟩
    simp only [Int.toNat_natCast] at hmk
    have h1 := row_mk w 3 (.int .i64 0) rfl m (by unfold maxLen; omega)
    have h2 := heap_alloc_new (w.alloc (.cells (madeCells #[.int .i64 0] m) 3)) (.cells #[.slice (some ⟨w.heap.size, 0, none⟩) m m, .int .i64 (-1)] 73)
    rw [World.size_alloc] at h2
    have HP := Lib.hid (show Win ((w.alloc (.cells (madeCells #[.int .i64 0] m) 3)).alloc (.cells #[.slice (some ⟨w.heap.size, 0, none⟩) m m, .int .i64 (-1)] 73)) (w.heap.size + 1) w.heap.size m (fun j => if j < 0 then -1 else 0) (-1) from ⟨h2, (h1.alloc _).congr (fun j _ => by simp), by omega⟩)
    have HF := Lib.hid (show Fr [] w ((w.alloc (.cells (madeCells #[.int .i64 0] m) 3)).alloc (.cells #[.slice (some ⟨w.heap.size, 0, none⟩) m m, .int .i64 (-1)] 73)) from ((Fr.refl [] w).alloc _).alloc _)
    clear h1 h2
    go_enter Tryd.func10, Tryd.ntmps10
    go_wp2
    clear hmk
    go_loopw [5, 22] (fun _ i wr => ∃ k : Nat, k ≤ m ∧ i = .int .i64 k ∧ Win wr (w.heap.size + 1) w.heap.size m (fun j => if j < k then -1 else 0) (-1) ∧ Fr [] w wr) (fun _ i _ => m - (intOf i).toNat)
    case atStart => exact ⟨0, by omega, rfl, HP.out, HF.out⟩
    case round =>
      clear HP HF
      obtain ⟨k, hk, rfl, hP, hf⟩ := hrel
      have HF := Lib.hid hf; clear hf
      by_cases hlt : k < m
      · have c0 := blk_cell hP.blk 0 rfl
        have c1 := hP.row.cell k hlt
        have z1 := hP.row.frozen k
        have k0 : (0 : Int) ≤ (k : Int) := by omega
        have k3 : (k : Int) < (m : Int) := by omega
        have fa : Fr [w.heap.size] wr (wr.setCell ⟨w.heap.size, k, none⟩ (.int .i64 (-1))) := (Fr.refl [w.heap.size] wr).setCell (by simp) _
        have HP2 := Lib.hid (show Win (wr.setCell ⟨w.heap.size, k, none⟩ (.int .i64 (-1))) (w.heap.size + 1) w.heap.size m (fun j => if j < k + 1 then -1 else 0) (-1) from
          ⟨fa.blk hP.blk (by simp), (hP.row.stored k _).congr (fun j hj => by
            by_cases hjk : j = k
            · subst hjk; simp
            · by_cases h4 : j < k
              · simp [hjk, h4, show j < k + 1 by omega]
              · simp [hjk, h4, show ¬ j < k + 1 by omega]), by omega⟩)
        have HF2 := Lib.hid (HF.out.trans fa (fun x hx => .inr (by simp at hx; omega)))
        clear fa hP
        go_wp2
        go_roundw
        case rel => exact ⟨k + 1, by omega, by go_num, HP2.out, HF2.out⟩
        case measure => simp [intOf]; omega
      · obtain rfl : k = m := by omega
        have HP := Lib.hid hP; clear hP
        go_wp2
        go_ret2
        exact ⟨HF.out, .inl ⟨HOK.out, _, _, rfl, by omega, Nat.le_refl _, HP.out.blk, HP.out.row.congr (fun j hj => by simp [hj]), HP.out.hp⟩⟩
  · have HOK := Lib.hid hok
    unfold WOk at hok
    have hc : n < 1 ∨ (1 ≤ n ∧ 1000 < n) := by omega
    clear hok
    rcases hc with h1 | ⟨h1, h2⟩
    all_goals
      go_enter Tryd.func10, Tryd.ntmps10
      go_wp2
      go_ret2
      exact ⟨Fr.refl _ _, .inr ⟨HOK.out, rfl⟩⟩

theorem replay_top (w : World) {p g n : Nat} {f : Nat → Int} {top : Int} (h : Win w p g n f top) :
    Calls Tryd.prog 13 #[.pointer (some ⟨p, 0, none⟩)] w fun e w' => e = .returned (.int .i64 top) ∧ w' = w := by
  have c1 := blk_cell h.blk 1 rfl
  clear h
  go_enter Tryd.func13, Tryd.ntmps13
  go_wp2
  go_ret
  exact ⟨rfl, rfl⟩

set_option maxRecDepth 100000 in
set_option maxHeartbeats 2000000 in
theorem replay_late (w : World) {p g n : Nat} {f : Nat → Int} {top : Int} (h : Win w p g n f top) (hn : 1 ≤ n ∧ n ≤ 1000) (k : Int) (hk : k < 0 ∨ (0 ≤ k ∧ k < top ∧ n ≤ top - k)) (ht : top ≤ 9223372036854775807) :
    Calls Tryd.prog 12 #[.pointer (some ⟨p, 0, none⟩), .int .i64 k] w fun e w' => e = .returned (.bool false) ∧ w' = w := by
  have c0 := blk_cell h.blk 0 rfl
  have c1 := blk_cell h.blk 1 rfl
  clear h
  rcases hk with h1 | ⟨h1, h2, h3⟩
  all_goals
    go_enter Tryd.func12, Tryd.ntmps12
    go_wp2
    go_ret
    exact ⟨rfl, rfl⟩

set_option maxRecDepth 100000 in
set_option maxHeartbeats 2000000 in
theorem replay_see (w : World) {p g n : Nat} {f : Nat → Int} {top : Int} (h : Win w p g n f top) (hn : 1 ≤ n ∧ n ≤ 1000) (k : Nat) (hk : ¬ ((k : Int) < top ∧ (n : Int) ≤ top - k)) (ht : top ≤ 9223372036854775807) :
    Calls Tryd.prog 12 #[.pointer (some ⟨p, 0, none⟩), .int .i64 k] w fun e w' =>
      (f (k % n) = k ∧ e = .returned (.bool false) ∧ w' = w) ∨ (f (k % n) ≠ k ∧ e = .returned (.bool true) ∧ Win w' p g n (fun j => if j = k % n then (k : Int) else f j) (max top k) ∧ Fr [p, g] w w') := by
  have c0 := blk_cell h.blk 0 rfl
  have c1 := blk_cell h.blk 1 rfl
  have hlt : k % n < n := Nat.mod_lt _ (by omega)
  have c2 := h.row.cell _ hlt
  have z2 := h.row.frozen (k % n)
  have H := Lib.hid h; clear h
  have hn0 : ¬ (n : Int) = 0 := by omega
  have m1 : ((k : Int) % (n : Int)).toNat = k % n := by rw [← Int.natCast_emod]; rfl
  have m2 : (0 : Int) ≤ (k : Int) % (n : Int) := by omega
  have m3 : (k : Int) % (n : Int) < (n : Int) := by omega
  by_cases hf : f (k % n) = k
  · have hff := hf
    rw [hf] at c2
    have HFF := Lib.hid hff
    clear hf hff
    by_cases h1 : (k : Int) < top
    all_goals
      go_enter Tryd.func12, Tryd.ntmps12
      go_wp2
      go_ret
      exact .inl ⟨HFF.out, rfl, rfl⟩
  · have hne : (f (k % n) == (k : Int)) = false := by simpa using hf
    have HFF := Lib.hid hf
    have hthree : (k : Int) < top ∨ (k : Int) = top ∨ top < (k : Int) := by omega
    rcases hthree with h1 | h1 | h1
    · have e : max top (k : Int) = top := by omega
      rw [e]
      obtain ⟨⟨_, s2, s3⟩, s4, s5⟩ := H.out.take (k % n) (k : Int) top
      have HT := Lib.hid s4
      have HF := Lib.hid s5
      clear s4 s5 e hf
      go_enter Tryd.func12, Tryd.ntmps12
      go_wp2
      go_ret
      first | exact .inr ⟨HFF.out, rfl, HT.out, HF.out⟩ | exact ⟨rfl, HT.out, HF.out⟩
    · have e : max top (k : Int) = top := by omega
      rw [e]
      obtain ⟨⟨_, s2, s3⟩, s4, s5⟩ := H.out.take (k % n) (k : Int) top
      have HT := Lib.hid s4
      have HF := Lib.hid s5
      clear s4 s5 e hf
      have h2 : ¬ (k : Int) < top := by omega
      have h3 : ¬ top < (k : Int) := by omega
      clear h1
      go_enter Tryd.func12, Tryd.ntmps12
      go_wp2
      go_ret
      first | exact .inr ⟨HFF.out, rfl, HT.out, HF.out⟩ | exact ⟨rfl, HT.out, HF.out⟩
    · have e : max top (k : Int) = (k : Int) := by omega
      rw [e]
      obtain ⟨⟨_, s2, s3⟩, s4, s5⟩ := H.out.take (k % n) (k : Int) (k : Int)
      have HT := Lib.hid s4
      have HF := Lib.hid s5
      clear s4 s5 e hf
      go_enter Tryd.func12, Tryd.ntmps12
      go_wp2
      go_ret
      first | exact .inr ⟨HFF.out, rfl, HT.out, HF.out⟩ | exact ⟨rfl, HT.out, HF.out⟩

end Go.Proofs.YtlinembnfcdmcaaDoor
