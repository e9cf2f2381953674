/- least: New, Start, End, Load: what each does. -/
import Derived.Test.YthopnlnknicgbaaDoorClone
import Derived.Test.YthopnlnknicgbaaDoorIdx
import Derived.BigQuiet
namespace Go.Proofs.YthopnlnknicgbaaDoor
open Go.RowKit

structure Pool (w : World) (p g n c : Nat) (f : Nat → Int) : Prop where
  blk : w.heap[p]? = some (.cells #[.slice (some ⟨g, 0, none⟩) n c] 75 (0, 0))
  row : RowI w g n c f
  hp : p ≠ g

section
variable {w w' : World} {p g n c : Nat} {f : Nat → Int}
theorem Pool.kept {S : List Nat} (h : Pool w p g n c f) (hf : Fr S w w') (hn : p ∉ S ∧ g ∉ S) : Pool w' p g n c f := ⟨hf.blk h.blk hn.1, h.row.kept hf hn.2, h.hp⟩
theorem Pool.congr {f' : Nat → Int} (h : Pool w p g n c f) (he : ∀ j, j < n → f j = f' j) : Pool w p g n c f' := ⟨h.blk, h.row.congr (fun j hj => by simp only [he j hj]), h.hp⟩
theorem Pool.stored (h : Pool w p g n c f) (k : Nat) (x : Int) : Pool (w.setCell ⟨g, k, none⟩ (.int .i64 x)) p g n c (fun j => if j = k then x else f j) :=
  have hf : Fr [g] w (w.setCell ⟨g, k, none⟩ (.int .i64 x)) := (Fr.refl [g] w).setCell (by simp) _
  ⟨hf.blk h.blk (by simpa using h.hp), (h.row.stored k _).congr (fun j hj => by by_cases hjk : j = k <;> simp_all), h.hp⟩
end

/-- the first of those that have least -/
def lst (f : Nat → Int) (n : Nat) : Nat := fst f (mna (f 0) f n) n

theorem lst_spec (f : Nat → Int) (n : Nat) (hn : 0 < n) : lst f n < n ∧ ∀ j, j < n → f (lst f n) ≤ f j := by
  have hm := mna_le (f 0) f n
  have hs := fst_spec f (mna (f 0) f n) n
  have hl := fst_le f (mna (f 0) f n) n
  have hex : ∃ j, j < n ∧ f j = mna (f 0) f n := by
    rcases mna_mem (f 0) f n with h | h
    · exact ⟨0, hn, h.symm⟩
    · exact h
  have hlt : lst f n < n := by
    unfold lst
    by_cases h : fst f (mna (f 0) f n) n < n
    · exact h
    · obtain ⟨j, hj, e⟩ := hex
      exact absurd e (hs.1 j (by omega))
  refine ⟨hlt, fun j hj => ?_⟩
  have e := hs.2 hlt
  unfold lst
  rw [e]
  exact hm.2 j hj

theorem idx_lst (f : Nat → Int) (n : Nat) (hn : 0 < n) : idx f (mna (f 0) f n) n = (lst f n : Int) := by
  have h := (lst_spec f n hn).1
  unfold idx lst at *
  rw [if_pos h]

set_option maxHeartbeats 1000000 in
theorem least_start (w : World) (p g n c : Nat) (f : Nat → Int) (h : Pool w p g n c f) (hn : 0 < n) (hnn : n ≤ 1000) (hb : ∀ j, j < n → 0 ≤ f j ∧ f j ≤ 1000000) :
    Calls Tryd.prog 13 #[.pointer (some ⟨p, 0, none⟩)] w fun e w' =>
      e = .returned (.int .i64 (lst f n)) ∧ Pool w' p g n c (fun j => if j = lst f n then f (lst f n) + 1 else f j) ∧ Fr [g] w w' := by
  have hc0 := blk_cell h.blk 0 rfl
  have HM := Lib.hid (fun q => min_any (w.drewN q) _ n f h.row.rd hn (by omega))
  have HI := Lib.hid (show ∀ q, Calls Tryd.prog 47 #[.slice (some ⟨g, 0, none⟩) n c, .int .i64 (mna (f 0) f n)] (w.drewN q) fun e w' => e = .returned (.int .i64 (lst f n)) ∧ w' = w.drewN q from fun q => by
    have := index_any (w.drewN q) _ n f (mna (f 0) f n) h.row.rd (by omega)
    rwa [idx_lst f n hn] at this)
  have hl := lst_spec f n hn
  have bd := hb _ hl.1
  have k1 : w.cell? ⟨g, lst f n, none⟩ = some (.int .i64 (f (lst f n))) := h.row.cell _ hl.1
  have fo0 : w.frozen? ⟨g, lst f n, none⟩ = false := h.row.frozen _
  have k3 : ((lst f n : Nat) : Int) < (n : Int) := by omega
  have HFIN := Lib.hid (show ∀ q, Pool ((w.setCell ⟨g, lst f n, none⟩ (.int .i64 (f (lst f n) + 1))).drewN q) p g n c (fun j => if j = lst f n then f (lst f n) + 1 else f j) ∧ Fr [g] w ((w.setCell ⟨g, lst f n, none⟩ (.int .i64 (f (lst f n) + 1))).drewN q) from fun q =>
    ⟨(h.stored _ _).kept ((Fr.refl [] _).drewN q) (by simp), ((Fr.refl [g] w).setCell (by simp) _).drewN q⟩)
  clear h hb
  have hl1 := hl.1
  clear hl
  generalize hq : lst f n = b at *
  have HQ := Lib.hid hq; clear hq
  go_enter Tryd.func13, Tryd.ntmps13
  go_wp2_with fail
  go_quiet (first | (go_at_call 48; exact Calls.quiet_of_same (HM.out _)) | (go_at_call 47; exact Calls.quiet_of_same (HI.out _)))
  go_wp2
  go_ret
  exact ⟨rfl, (HFIN.out _).1, (HFIN.out _).2⟩

set_option maxHeartbeats 1000000 in
theorem least_end (w : World) (p g n c : Nat) (f : Nat → Int) (k : Nat) (h : Pool w p g n c f) (hk : k < n) (hnn : n ≤ 1000) (hb : 0 < f k ∧ f k ≤ 1000000) :
    Calls Tryd.prog 14 #[.pointer (some ⟨p, 0, none⟩), .int .i64 k] w fun e w' =>
      e = .returned .nilIface ∧ Pool w' p g n c (fun j => if j = k then f k - 1 else f j) ∧ Fr [g] w w' := by
  have hc0 := blk_cell h.blk 0 rfl
  have k1 : w.cell? ⟨g, k, none⟩ = some (.int .i64 (f k)) := h.row.cell _ hk
  have fo0 : w.frozen? ⟨g, k, none⟩ = false := h.row.frozen _
  have k0 : (0 : Int) ≤ (k : Int) := by omega
  have k3 : (k : Int) < (n : Int) := by omega
  have hz : (f k == 0) = false := by simp; omega
  have HFIN := Lib.hid (show Pool (w.setCell ⟨g, k, none⟩ (.int .i64 (f k - 1))) p g n c (fun j => if j = k then f k - 1 else f j) ∧ Fr [g] w (w.setCell ⟨g, k, none⟩ (.int .i64 (f k - 1))) from ⟨h.stored _ _, (Fr.refl [g] w).setCell (by simp) _⟩)
  clear h
  go_enter Tryd.func14, Tryd.ntmps14
  go_wp2
  go_ret
  exact ⟨rfl, HFIN.out.1, HFIN.out.2⟩

set_option maxHeartbeats 1000000 in
theorem least_end_none (w : World) (p g n c : Nat) (f : Nat → Int) (k : Nat) (h : Pool w p g n c f) (hk : k < n) (hnn : n ≤ 1000) (hz : f k = 0) :
    Calls Tryd.prog 14 #[.pointer (some ⟨p, 0, none⟩), .int .i64 k] w fun e w' =>
      e = .returned (.iface 24 (.int .i64 9)) ∧ w' = w := by
  have hc0 := blk_cell h.blk 0 rfl
  have k1 : w.cell? ⟨g, k, none⟩ = some (.int .i64 0) := by have := h.row.cell _ hk; rw [hz] at this; exact this
  have k0 : (0 : Int) ≤ (k : Int) := by omega
  have k3 : (k : Int) < (n : Int) := by omega
  clear h
  go_enter Tryd.func14, Tryd.ntmps14
  go_wp2
  go_ret
  exact ⟨rfl, rfl⟩

set_option maxHeartbeats 1000000 in
theorem least_end_range (w : World) (p g n c : Nat) (f : Nat → Int) (k : Int) (h : Pool w p g n c f) (hk : k < 0 ∨ n ≤ k) (hnn : n ≤ 1000) :
    Calls Tryd.prog 14 #[.pointer (some ⟨p, 0, none⟩), .int .i64 k] w fun e w' =>
      e = .returned (.iface 24 (.int .i64 6)) ∧ w' = w := by
  have hc0 := blk_cell h.blk 0 rfl
  clear h
  rcases hk with hk | hk
  all_goals
    go_enter Tryd.func14, Tryd.ntmps14
    go_wp2
    go_ret
    exact ⟨rfl, rfl⟩

set_option maxHeartbeats 1000000 in
theorem least_load (w : World) (p g n c : Nat) (f : Nat → Int) (h : Pool w p g n c f) (hn : 0 < n) (hnn : n ≤ 1000) :
    Calls Tryd.prog 16 #[.pointer (some ⟨p, 0, none⟩)] w fun e w' => ∃ g' c', e = .returned (.slice (some ⟨g', 0, none⟩) n c') ∧ w.heap.size ≤ g' ∧ RowI w' g' n c' f ∧ Fr [] w w' := by
  have hc0 := blk_cell h.blk 0 rfl
  have HR := Lib.hid h.row.rd
  clear h
  go_enter Tryd.func16, Tryd.ntmps16
  go_wp2_with fail
  refine (clone_pos _ _ n f HR.out hn (by omega)).mono ?_
  rintro e w' ⟨g', c', rfl, hg, hr, hf⟩
  go_wp2
  go_ret
  exact ⟨g', c', rfl, hg, hr, hf⟩

def LOk (n : Int) : Prop := 1 ≤ n ∧ n ≤ 40

/-- what New leaves -/
def LNew (w : World) (n : Int) (e : Ending) (w' : World) : Prop :=
  Fr [] w w' ∧ ((LOk n ∧ ∃ p g, e = .returned (.tuple #[.pointer (some ⟨p, 0, none⟩), .nilIface]) ∧ w.heap.size ≤ p ∧ w.heap.size ≤ g ∧ Pool w' p g n.toNat n.toNat (fun _ => 0)) ∨
    (¬ LOk n ∧ e = .returned (.tuple #[.pointer none, .iface 24 (.int .i64 6)])))

set_option maxHeartbeats 1000000 in
theorem least_new (w : World) (n : Int) : Calls Tryd.prog 10 #[.int .i64 n] w (LNew w n) := by
  by_cases hok : LOk n
  · have hok' := hok
    unfold LOk at hok'
    have hmk := run_mk (P := Tryd.prog) 22 3 infoInt Tryd.underlying22 n.toNat (by omega) (by unfold maxLen; omega)
    obtain ⟨m, rfl⟩ : ∃ m : Nat, n = (m : Int) := ⟨n.toNat, by omega⟩
    simp only [Int.toNat_natCast] at hmk
    have HOK := Lib.hid hok; clear hok
    go_enter Tryd.func10, Tryd.ntmps10
    go_wp2
    go_ret2
    have h1 := row_mk w 3 (.int .i64 0) rfl m (by unfold maxLen; omega)
    refine ⟨((Fr.refl [] w).alloc _).alloc _, .inl ⟨HOK.out, _, _, rfl, by simp, Nat.le_refl _, ?_⟩⟩
    refine ⟨?_, ?_, by simp⟩
    · have h2 := heap_alloc_new (w.alloc (.cells (madeCells #[.int .i64 0] m) 3)) (.cells #[.slice (some ⟨w.heap.size, 0, none⟩) m m] 75)
      rw [World.size_alloc] at h2
      exact h2
    · exact h1.alloc _
  · have HOK := Lib.hid hok
    unfold LOk at hok
    by_cases h1 : n < 1
    all_goals
      go_enter Tryd.func10, Tryd.ntmps10
      go_wp2
      go_ret2
      exact ⟨Fr.refl _ _, .inr ⟨HOK.out, rfl⟩⟩

end Go.Proofs.YthopnlnknicgbaaDoor
