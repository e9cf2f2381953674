/- drr: Credit, Waits. -/
import Derived.Test.YthopnlnknicgbaaDoorDrrNext
namespace Go.Proofs.YthopnlnknicgbaaDoor
open Go.RowKit


set_option maxRecDepth 100000 in
set_option maxHeartbeats 2000000 in
theorem drr_credit (w : World) {B p gr n c : Nat} {pf : Nat → Nat} {lv : Nat → Value} {sh : Nat → Int} {s : Dst} {ln : Nat → Nat} {li : Nat → Nat → Int} {waits : Nat} (h : Drr w B p gr n c pf lv sh s ln li waits) (hn : n ≤ 40) :
    Calls Tryd.prog 31 #[.pointer (some ⟨p, 0, none⟩)] w fun e w' => ∃ a c, e = .returned (.slice a n c) ∧ OwnF w' w.heap.size 3 (.slice a n c) n (fun j => .int .i64 (s.cr j)) ∧ Fr [] w w' := by
  have c0 := blk_cell h.blk 0 rfl
  have H := Lib.hid h; clear h
  go_enter Tryd.func31, Tryd.ntmps31
  go_wp2_with (go_in)
  go_loopw [5, 13] (fun out i wr => ∃ k : Nat, k ≤ n ∧ i = .int .i64 k ∧ OwnF wr w.heap.size 3 out k (fun j => .int .i64 (s.cr j)) ∧ Fr [] w wr) (fun _ i _ => n - (intOf i).toNat)
  case atStart => exact ⟨0, by omega, rfl, OwnF.nil _ _ _ _, Fr.refl _ _⟩
  case round =>
    obtain ⟨k, hk, rfl, ho, hf⟩ := hrel
    have HO := Lib.hid ho; clear ho
    have hsz := hf.size
    by_cases hlt : k < n
    · have k0 : (0 : Int) ≤ (k : Int) := by omega
      have k3 : (k : Int) < (n : Int) := by omega
      have k1 := hf.cell (H.out.row.cell k hlt) (by simp)
      have k2 := hf.cell (p := ⟨pf k, 1, none⟩) (blk_cell (H.out.flow k hlt) 1 rfl) (by simp)
      have HF := Lib.hid hf; clear hf
      go_wp2_with (first | go_in | (at_builtin; refine wpList_app rfl (.tmp 17) (.tmp 21) 22 rfl 3 infoInt Tryd.underlying22 rfl (HO.out.alloc _) rfl (rd_one _ _ _ (by simp)) rfl (fun _ _ => rfl) (by unfold maxLen; omega) (by omega) (by simp; omega) ?_; intro v4 w4 ho4 hf4 _))
      have HO4 := Lib.hid (ho4.congr (f' := fun j => .int .i64 (s.cr j)) (fun j hj => by
        unfold app
        by_cases h4 : j < k
        · rw [if_pos h4]
        · obtain rfl : j = k := by omega
          rw [if_neg h4]))
      have HF4 := Lib.hid (HF.out.app _ hf4 HO.out.ge)
      clear ho4 hf4
      go_wp2
      go_roundw
      case rel => exact ⟨k + 1, by omega, by go_num, HO4.out, HF4.out⟩
      case measure => simp [intOf]; omega
    · obtain rfl : k = n := by omega
      have HF := Lib.hid hf; clear hf
      go_wp2
      go_ret
      obtain ⟨a, c, e⟩ := HO.out.rd.slice
      exact ⟨a, c, by rw [← e]; rfl, by rw [← e]; exact HO.out, HF.out⟩


set_option maxRecDepth 100000 in
set_option maxHeartbeats 2000000 in
theorem drr_waits (w : World) {B p gr n c : Nat} {pf : Nat → Nat} {lv : Nat → Value} {sh : Nat → Int} {s : Dst} {ln : Nat → Nat} {li : Nat → Nat → Int} {waits : Nat} (h : Drr w B p gr n c pf lv sh s ln li waits) (hn : n ≤ 40) :
    Calls Tryd.prog 32 #[.pointer (some ⟨p, 0, none⟩)] w fun e w' => ∃ a c, e = .returned (.slice a n c) ∧ OwnF w' w.heap.size 3 (.slice a n c) n (fun j => .int .i64 ((ln j : Nat))) ∧ Fr [] w w' := by
  have c0 := blk_cell h.blk 0 rfl
  have H := Lib.hid h; clear h
  go_enter Tryd.func32, Tryd.ntmps32
  go_wp2_with (go_in)
  go_loopw [5, 13] (fun out i wr => ∃ k : Nat, k ≤ n ∧ i = .int .i64 k ∧ OwnF wr w.heap.size 3 out k (fun j => .int .i64 ((ln j : Nat))) ∧ Fr [] w wr) (fun _ i _ => n - (intOf i).toNat)
  case atStart => exact ⟨0, by omega, rfl, OwnF.nil _ _ _ _, Fr.refl _ _⟩
  case round =>
    obtain ⟨k, hk, rfl, ho, hf⟩ := hrel
    have HO := Lib.hid ho; clear ho
    have hsz := hf.size
    by_cases hlt : k < n
    · have k0 : (0 : Int) ≤ (k : Int) := by omega
      have k3 : (k : Int) < (n : Int) := by omega
      have k1 := hf.cell (H.out.row.cell k hlt) (by simp)
      obtain ⟨av, cv, hav⟩ := (H.out.line k hlt).rd.slice
      have k2 := hf.cell (p := ⟨pf k, 2, none⟩) (blk_cell (H.out.flow k hlt) 2 rfl) (by simp)
      rw [hav] at k2
      clear hav
      have HF := Lib.hid hf; clear hf
      go_wp2_with (first | go_in | (at_builtin; refine wpList_app rfl (.tmp 17) (.tmp 21) 22 rfl 3 infoInt Tryd.underlying22 rfl (HO.out.alloc _) rfl (rd_one _ _ _ (by simp)) rfl (fun _ _ => rfl) (by unfold maxLen; omega) (by omega) (by simp; omega) ?_; intro v4 w4 ho4 hf4 _))
      have HO4 := Lib.hid (ho4.congr (f' := fun j => .int .i64 ((ln j : Nat))) (fun j hj => by
        unfold app
        by_cases h4 : j < k
        · rw [if_pos h4]
        · obtain rfl : j = k := by omega
          rw [if_neg h4]))
      have HF4 := Lib.hid (HF.out.app _ hf4 HO.out.ge)
      clear ho4 hf4
      go_wp2
      go_roundw
      case rel => exact ⟨k + 1, by omega, by go_num, HO4.out, HF4.out⟩
      case measure => simp [intOf]; omega
    · obtain rfl : k = n := by omega
      have HF := Lib.hid hf; clear hf
      go_wp2
      go_ret
      obtain ⟨a, c, e⟩ := HO.out.rd.slice
      exact ⟨a, c, by rw [← e]; rfl, by rw [← e]; exact HO.out, HF.out⟩

end Go.Proofs.YthopnlnknicgbaaDoor
