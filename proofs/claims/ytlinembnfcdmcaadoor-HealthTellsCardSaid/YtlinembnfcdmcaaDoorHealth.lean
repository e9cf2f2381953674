/- health: turn, Check, step, Steps, Step: what each does. -/
import Derived.Test.YtlinembnfcdmcaaDoorRows
import Derived.Test.YtlinembnfcdmcaaDoorInfo
namespace Go.Proofs.YtlinembnfcdmcaaDoor
open Go.RowKit

/-- how many in a row turn it -/
def tn (up : Bool) (rise fall : Int) : Int := if up then fall else rise

/-- one probe -/
def stp (s : Bool × Int) (ok : Bool) (rise fall : Int) : Bool × Int :=
  if ok = s.1 then (s.1, 0) else if s.2 + 1 = tn s.1 rise fall then (!s.1, 0) else (s.1, s.2 + 1)

/-- is it in order? -/
def HOk (up : Bool) (run rise fall : Int) : Prop := 1 ≤ rise ∧ rise ≤ 1000 ∧ 1 ≤ fall ∧ fall ≤ 1000 ∧ 0 ≤ run ∧ run < tn up rise fall

theorem tn_bd (up : Bool) (rise fall : Int) (h : 1 ≤ rise ∧ rise ≤ 1000 ∧ 1 ≤ fall ∧ fall ≤ 1000) : 1 ≤ tn up rise fall ∧ tn up rise fall ≤ 1000 := by
  unfold tn; split <;> omega

theorem stp_ok (s : Bool × Int) (ok : Bool) (rise fall : Int) (h : HOk s.1 s.2 rise fall) : HOk (stp s ok rise fall).1 (stp s ok rise fall).2 rise fall := by
  obtain ⟨h1, h2, h3, h4, h5, h6⟩ := h
  have h7 := tn_bd s.1 rise fall ⟨h1, h2, h3, h4⟩
  have h8 := tn_bd (!s.1) rise fall ⟨h1, h2, h3, h4⟩
  unfold stp
  by_cases c1 : ok = s.1
  · rw [if_pos c1]; exact ⟨h1, h2, h3, h4, Int.le_refl _, by simp only; omega⟩
  · rw [if_neg c1]
    by_cases c2 : s.2 + 1 = tn s.1 rise fall
    · rw [if_pos c2]; exact ⟨h1, h2, h3, h4, Int.le_refl _, by simp only; omega⟩
    · rw [if_neg c2]; exact ⟨h1, h2, h3, h4, by simp only; omega, by simp only; omega⟩

def stps (s : Bool × Int) (ok : Nat → Bool) (rise fall : Int) : Nat → Bool × Int
  | 0 => s
  | k + 1 => stp (stps s ok rise fall k) (ok k) rise fall

theorem stps_ok (s : Bool × Int) (ok : Nat → Bool) (rise fall : Int) (h : HOk s.1 s.2 rise fall) (k : Nat) : HOk (stps s ok rise fall k).1 (stps s ok rise fall k).2 rise fall := by
  induction k with
  | zero => exact h
  | succ k ih => exact stp_ok _ _ _ _ ih

theorem turn_any (w : World) (up : Bool) (run rise fall : Int) :
    Calls Tryd.prog 48 #[.agg #[.bool up, .int .i64 run], .int .i64 rise, .int .i64 fall] w fun e w' => e = .returned (.int .i64 (tn up rise fall)) ∧ Fr [] w w' := by
  cases up
  · go_enter Tryd.func48, Tryd.ntmps48
    go_wp2
    go_ret
    exact ⟨rfl, (Fr.refl _ _).alloc _⟩
  · go_enter Tryd.func48, Tryd.ntmps48
    go_wp2
    go_ret
    exact ⟨rfl, (Fr.refl _ _).alloc _⟩

set_option maxHeartbeats 1000000 in
theorem check_early (w : World) (up : Bool) (run rise fall : Int) (h : rise < 1 ∨ 1000 < rise ∨ fall < 1 ∨ 1000 < fall ∨ run < 0) :
    Calls Tryd.prog 31 #[.agg #[.bool up, .int .i64 run], .int .i64 rise, .int .i64 fall] w fun e w' => e = .returned (.iface 30 (.int .i64 6)) ∧ Fr [] w w' := by
  by_cases h1 : rise < 1
  · have d1 : decide (rise < 1) = true := by simpa using h1
    go_enter Tryd.func31, Tryd.ntmps31
    go_wp2
    go_quiet (fail)
    go_wp2
    go_ret
    exact ⟨rfl, ((Fr.refl _ _).alloc _).drewN _⟩
  have d1 : decide (rise < 1) = false := by simpa using h1
  by_cases h2 : 1000 < rise
  · have d2 : decide (1000 < rise) = true := by simpa using h2
    go_enter Tryd.func31, Tryd.ntmps31
    go_wp2
    go_quiet (fail)
    go_wp2
    go_ret
    exact ⟨rfl, ((Fr.refl _ _).alloc _).drewN _⟩
  have d2 : decide (1000 < rise) = false := by simpa using h2
  by_cases h3 : fall < 1
  · have d3 : decide (fall < 1) = true := by simpa using h3
    go_enter Tryd.func31, Tryd.ntmps31
    go_wp2
    go_quiet (fail)
    go_wp2
    go_ret
    exact ⟨rfl, ((Fr.refl _ _).alloc _).drewN _⟩
  have d3 : decide (fall < 1) = false := by simpa using h3
  by_cases h4 : 1000 < fall
  · have d4 : decide (1000 < fall) = true := by simpa using h4
    go_enter Tryd.func31, Tryd.ntmps31
    go_wp2
    go_quiet (fail)
    go_wp2
    go_ret
    exact ⟨rfl, ((Fr.refl _ _).alloc _).drewN _⟩
  have d4 : decide (1000 < fall) = false := by simpa using h4
  have h5 : run < 0 := by omega
  have d5 : decide (run < 0) = true := by simpa using h5
  go_enter Tryd.func31, Tryd.ntmps31
  go_wp2
  go_quiet (fail)
  go_wp2
  go_ret
  exact ⟨rfl, ((Fr.refl _ _).alloc _).drewN _⟩

set_option maxHeartbeats 1000000 in
theorem check_late (w : World) (up : Bool) (run rise fall : Int) (h1 : ¬ rise < 1) (h2 : ¬ 1000 < rise) (h3 : ¬ fall < 1) (h4 : ¬ 1000 < fall) (h5 : ¬ run < 0) :
    Calls Tryd.prog 31 #[.agg #[.bool up, .int .i64 run], .int .i64 rise, .int .i64 fall] w fun e w' => (e = if tn up rise fall ≤ run then .returned (.iface 30 (.int .i64 6)) else .returned .nilIface) ∧ Fr [] w w' := by
  have d1 : decide (rise < 1) = false := by simpa using h1
  have d2 : decide (1000 < rise) = false := by simpa using h2
  have d3 : decide (fall < 1) = false := by simpa using h3
  have d4 : decide (1000 < fall) = false := by simpa using h4
  have d5 : decide (run < 0) = false := by simpa using h5
  by_cases h6 : tn up rise fall ≤ run
  · have d6 : decide (tn up rise fall ≤ run) = true := by simpa using h6
    rw [if_pos h6]
    go_enter Tryd.func31, Tryd.ntmps31
    go_wp2
    go_region_held3 (fun w' => w'.cell? ⟨w.heap.size, 0, none⟩ = some (.bool up) ∧ w'.cell? ⟨w.heap.size, 1, none⟩ = some (.int .i64 run))
      (first
        | go_keep
        | (go_split_ands
           exact ⟨hf.cell (by assumption) (by simp), hf.cell (by assumption) (by simp)⟩))
      (first
        | (go_at_call 48; refine (turn_any _ _ _ _ _).mono ?_; rintro e w' ⟨rfl, hf⟩))
    go_wp2
    go_ret
    exact ⟨rfl, (((Fr.refl [] w).alloc _).drew).trans hf (by simp)⟩
  · have d6 : decide (tn up rise fall ≤ run) = false := by simpa using h6
    rw [if_neg h6]
    go_enter Tryd.func31, Tryd.ntmps31
    go_wp2
    go_region_held3 (fun w' => w'.cell? ⟨w.heap.size, 0, none⟩ = some (.bool up) ∧ w'.cell? ⟨w.heap.size, 1, none⟩ = some (.int .i64 run))
      (first
        | go_keep
        | (go_split_ands
           exact ⟨hf.cell (by assumption) (by simp), hf.cell (by assumption) (by simp)⟩))
      (first
        | (go_at_call 48; refine (turn_any _ _ _ _ _).mono ?_; rintro e w' ⟨rfl, hf⟩))
    go_wp2
    go_ret
    exact ⟨rfl, (((Fr.refl [] w).alloc _).drew).trans hf (by simp)⟩

theorem check_ok (w : World) (up : Bool) (run rise fall : Int) (h : HOk up run rise fall) :
    Calls Tryd.prog 31 #[.agg #[.bool up, .int .i64 run], .int .i64 rise, .int .i64 fall] w fun e w' => e = .returned .nilIface ∧ Fr [] w w' := by
  obtain ⟨h1, h2, h3, h4, h5, h6⟩ := h
  refine (check_late w up run rise fall (by omega) (by omega) (by omega) (by omega) (by omega)).mono ?_
  rintro e w' ⟨rfl, hf⟩
  exact ⟨by rw [if_neg (by omega)], hf⟩

theorem check_bad (w : World) (up : Bool) (run rise fall : Int) (h : ¬ HOk up run rise fall) :
    Calls Tryd.prog 31 #[.agg #[.bool up, .int .i64 run], .int .i64 rise, .int .i64 fall] w fun e w' => e = .returned (.iface 30 (.int .i64 6)) ∧ Fr [] w w' := by
  by_cases h0 : rise < 1 ∨ 1000 < rise ∨ fall < 1 ∨ 1000 < fall ∨ run < 0
  · exact check_early w up run rise fall h0
  · refine (check_late w up run rise fall (by omega) (by omega) (by omega) (by omega) (by omega)).mono ?_
    rintro e w' ⟨rfl, hf⟩
    exact ⟨by rw [if_pos (by unfold HOk at h; omega)], hf⟩

set_option maxHeartbeats 1000000 in
theorem step_any (w : World) (up : Bool) (run rise fall : Int) (ok : Bool) (h : HOk up run rise fall) :
    Calls Tryd.prog 47 #[.agg #[.bool up, .int .i64 run], .bool ok, .int .i64 rise, .int .i64 fall] w fun e w' =>
      e = .returned (.agg #[.bool (stp (up, run) ok rise fall).1, .int .i64 (stp (up, run) ok rise fall).2]) ∧ Fr [] w w' := by
  obtain ⟨h1, h2, h3, h4, h5, h6⟩ := h
  have h7 := tn_bd up rise fall ⟨h1, h2, h3, h4⟩
  by_cases c1 : ok = up
  · have e : stp (up, run) ok rise fall = (up, 0) := by unfold stp; rw [if_pos c1]
    rw [e]
    have d1 : (ok == up) = true := by simp [c1]
    have C1 := Lib.hid c1; clear c1
    clear e
    go_enter Tryd.func47, Tryd.ntmps47
    go_wp2
    exact bodyPost_ret (v := .agg #[.bool up, .int .i64 0]) (by simp [results, Tryd.results47, go_sem]) rfl ⟨rfl, ((Fr.refl _ _).alloc _).alloc _⟩
  · have e : stp (up, run) ok rise fall = if run + 1 = tn up rise fall then (!up, 0) else (up, run + 1) := by unfold stp; rw [if_neg c1]
    rw [e]
    have d1 : (ok == up) = false := by simp [c1]
    clear c1 e
    by_cases c2 : run + 1 = tn up rise fall
    · rw [if_pos c2]
      have d2 : (run + 1 == tn up rise fall) = true := by simp [c2]
      clear c2
      go_enter Tryd.func47, Tryd.ntmps47
      go_wp2
      go_region_held3 (fun w' => w'.cell? ⟨w.heap.size, 0, none⟩ = some (.bool up) ∧ w'.cell? ⟨w.heap.size, 1, none⟩ = some (.int .i64 (run + 1)))
        (first
          | go_keep
          | (go_split_ands
             exact ⟨hf.cell (by assumption) (by simp), hf.cell (by assumption) (by simp)⟩))
        (first
          | (go_at_call 48; refine (turn_any _ _ _ _ _).mono ?_; rintro e w' ⟨rfl, hf⟩))
      have b0 : w'.heap[w.heap.size]? = some (.cells #[.bool up, .int .i64 (run + 1)] 54 (0, 0)) := hf.blk (((Fr.refl [] _).alloc _).blk (heap_alloc_new w _) (by simp)) (by simp)
      have b1 : w'.heap[w.heap.size + 1]? = some (.cells #[.bool false, .int .i64 0] 54 (0, 0)) := hf.blk (by have h := heap_alloc_new (w.alloc (.cells #[.bool up, .int .i64 (run + 1)] 54)) (.cells #[.bool false, .int .i64 0] 54); rw [World.size_alloc] at h; exact h) (by simp)
      have c00 := blk_cell b0 0 rfl
      have c01 := blk_cell b0 1 rfl
      have c10 := blk_cell b1 0 rfl
      have c11 := blk_cell b1 1 rfl
      have f00 := blk_frozen b0 0
      have f01 := blk_frozen b0 1
      have f10 := blk_frozen b1 0
      have f11 := blk_frozen b1 1
      have hF : Fr [] w w' := (((Fr.refl [] w).alloc _).alloc _).drew.trans hf (by simp)
      have hsz := hf.size
      simp at hsz
      have HF := Lib.hid hF
      clear b0 b1 hf hF
      go_wp2
      refine bodyPost_ret (v := .agg #[.bool (!up), .int .i64 0]) (by simp [results, Tryd.results47, go_sem, c00, c01, c10, c11]) rfl ?_
      refine ⟨rfl, ?_⟩
      repeat (first | exact HF.out | refine Fr.setCell ?_ (by right; simp) _)
    · rw [if_neg c2]
      have d2 : (run + 1 == tn up rise fall) = false := by simp [c2]
      clear c2
      go_enter Tryd.func47, Tryd.ntmps47
      go_wp2
      go_region_held3 (fun w' => w'.cell? ⟨w.heap.size, 0, none⟩ = some (.bool up) ∧ w'.cell? ⟨w.heap.size, 1, none⟩ = some (.int .i64 (run + 1)))
        (first
          | go_keep
          | (go_split_ands
             exact ⟨hf.cell (by assumption) (by simp), hf.cell (by assumption) (by simp)⟩))
        (first
          | (go_at_call 48; refine (turn_any _ _ _ _ _).mono ?_; rintro e w' ⟨rfl, hf⟩))
      have b0 : w'.heap[w.heap.size]? = some (.cells #[.bool up, .int .i64 (run + 1)] 54 (0, 0)) := hf.blk (((Fr.refl [] _).alloc _).blk (heap_alloc_new w _) (by simp)) (by simp)
      have b1 : w'.heap[w.heap.size + 1]? = some (.cells #[.bool false, .int .i64 0] 54 (0, 0)) := hf.blk (by have h := heap_alloc_new (w.alloc (.cells #[.bool up, .int .i64 (run + 1)] 54)) (.cells #[.bool false, .int .i64 0] 54); rw [World.size_alloc] at h; exact h) (by simp)
      have c00 := blk_cell b0 0 rfl
      have c01 := blk_cell b0 1 rfl
      have c10 := blk_cell b1 0 rfl
      have c11 := blk_cell b1 1 rfl
      have f00 := blk_frozen b0 0
      have f01 := blk_frozen b0 1
      have f10 := blk_frozen b1 0
      have f11 := blk_frozen b1 1
      have hF : Fr [] w w' := (((Fr.refl [] w).alloc _).alloc _).drew.trans hf (by simp)
      have hsz := hf.size
      simp at hsz
      have HF := Lib.hid hF
      clear b0 b1 hf hF
      go_wp2
      refine bodyPost_ret (v := .agg #[.bool up, .int .i64 (run + 1)]) (by simp [results, Tryd.results47, go_sem, c00, c01, c10, c11]) rfl ?_
      refine ⟨rfl, ?_⟩
      repeat (first | exact HF.out | refine Fr.setCell ?_ (by right; simp) _)

set_option maxHeartbeats 1000000 in
theorem steps_any (w : World) (up : Bool) (run rise fall : Int) (a : Option Addr) (n c : Nat) (ok : Nat → Bool) (hv : RdF w (.slice a n c) n (fun j => .bool (ok j))) (hn : n ≤ 9223372036854775807) (h : HOk up run rise fall) :
    Calls Tryd.prog 28 #[.agg #[.bool up, .int .i64 run], .slice a n c, .int .i64 rise, .int .i64 fall] w fun e w' =>
      e = .returned (.tuple #[.agg #[.bool (stps (up, run) ok rise fall n).1, .int .i64 (stps (up, run) ok rise fall n).2], .nilIface]) ∧ Fr [] w w' := by
  have HV := Lib.hid hv; clear hv
  have H := Lib.hid h; clear h
  go_enter Tryd.func28, Tryd.ntmps28
  go_wp2_with fail
  refine (check_ok _ up run rise fall H.out).mono ?_
  rintro e w1 ⟨rfl, hf⟩
  have b0 : w1.heap[w.heap.size]? = some (.cells #[.bool up, .int .i64 run] 54 (0, 0)) := hf.blk (((Fr.refl [] _).alloc _).blk (heap_alloc_new w _) (by simp)) (by simp)
  have b1 : w1.heap[w.heap.size + 1]? = some (.cells #[.bool false, .int .i64 0] 54 (0, 0)) := hf.blk (by have h := heap_alloc_new (w.alloc (.cells #[.bool up, .int .i64 run] 54)) (.cells #[.bool false, .int .i64 0] 54); rw [World.size_alloc] at h; exact h) (by simp)
  have B0 := Lib.hid b0; clear b0
  have B1 := Lib.hid b1; clear b1
  have HF := Lib.hid ((((Fr.refl [] w).alloc _).alloc _).trans hf (by simp)); clear hf
  go_wp2
  go_loopw [23] (fun i wr => ∃ k : Nat, k ≤ n ∧ i = .int .i64 k ∧ wr.heap[w.heap.size]? = some (.cells #[.bool (stps (up, run) ok rise fall k).1, .int .i64 (stps (up, run) ok rise fall k).2] 54 (0, 0)) ∧
      wr.heap[w.heap.size + 1]? = some (.cells #[.bool false, .int .i64 0] 54 (0, 0)) ∧ Fr [] w wr) (fun i _ => n - (intOf i).toNat)
  case atStart => exact ⟨0, by omega, rfl, B0.out, B1.out, HF.out⟩
  case round =>
    obtain ⟨k, hk, rfl, b0, b1, hf⟩ := hrel
    have hok := stps_ok (up, run) ok rise fall H.out k
    have hlt1 := lt_of_blk b1
    by_cases hlt : k < n
    · obtain ⟨b, o, cap', he, hnc, hcm, hbw, hc⟩ := HV.out.shape (by omega)
      simp only [Value.slice.injEq, true_and] at he
      obtain ⟨rfl, rfl⟩ := he
      have hcb := hf.cell (hc k hlt) (by simp)
      clear hc
      have hst : stps (up, run) ok rise fall (k + 1) = stp (stps (up, run) ok rise fall k) (ok k) rise fall := rfl
      have HST := Lib.hid hst; clear hst
      have c0 := blk_cell b0 0 rfl
      have c1 := blk_cell b0 1 rfl
      have B0 := Lib.hid b0; clear b0
      have B1 := Lib.hid b1; clear b1
      have HF := Lib.hid hf; clear hf
      have HOK := Lib.hid hok; clear hok
      go_wp2_with fail
      refine (step_any _ _ _ rise fall (ok k) HOK.out).mono ?_
      rintro e w2 ⟨rfl, hf2⟩
      have b0 := hf2.blk B0.out (by simp)
      have b1 := hf2.blk B1.out (by simp)
      have hf3 := HF.out.trans hf2 (by simp)
      have d0 := blk_cell b0 0 rfl
      have d1 := blk_cell b0 1 rfl
      have g0 := blk_frozen b0 0
      have g1 := blk_frozen b0 1
      have hs2 := hf2.size
      rw [← HST.out]
      have E0 := Lib.hid b0; clear b0
      have E1 := Lib.hid b1; clear b1
      have HF3 := Lib.hid hf3; clear hf2 hf3
      clear c0 c1
      go_wp2
      go_roundw
      case rel => exact ⟨k + 1, by omega, by go_num, blk_set2 E0.out _ _, (((Fr.refl [w.heap.size] w2).setCell (p := ⟨w.heap.size, 0, none⟩) (by simp) _).setCell (p := ⟨w.heap.size, 1, none⟩) (by simp) _).blk E1.out (by simp), (HF3.out.setCell (by right; simp) _).setCell (by right; simp) _⟩
      case measure => simp [intOf]; omega
    · obtain rfl : k = n := by omega
      have c0 := blk_cell b0 0 rfl
      have c1 := blk_cell b0 1 rfl
      have d0 := blk_cell b1 0 rfl
      have d1 := blk_cell b1 1 rfl
      have g0 := blk_frozen b1 0
      have g1 := blk_frozen b1 1
      have HF := Lib.hid hf; clear hf b0 b1
      generalize hss : stps (up, run) ok rise fall k = s at *
      have HSS := Lib.hid hss; clear hss
      go_wp2
      refine bodyPost_ret (v := .tuple #[.agg #[.bool s.1, .int .i64 s.2], .nilIface]) (by simp [results, Tryd.results28, go_sem, d0, d1]) rfl ?_
      rw [HSS.out]
      exact ⟨rfl, (HF.out.setCell (by right; simp) _).setCell (by right; simp) _⟩

set_option maxHeartbeats 1000000 in
theorem steps_bad (w : World) (up : Bool) (run rise fall : Int) (a : Option Addr) (n c : Nat) (h : ¬ HOk up run rise fall) :
    Calls Tryd.prog 28 #[.agg #[.bool up, .int .i64 run], .slice a n c, .int .i64 rise, .int .i64 fall] w fun e w' =>
      e = .returned (.tuple #[.agg #[.bool false, .int .i64 0], .iface 30 (.int .i64 6)]) ∧ Fr [] w w' := by
  have H := Lib.hid h; clear h
  go_enter Tryd.func28, Tryd.ntmps28
  go_wp2_with fail
  refine (check_bad _ up run rise fall H.out).mono ?_
  rintro e w1 ⟨rfl, hf⟩
  have b1 : w1.heap[w.heap.size + 1]? = some (.cells #[.bool false, .int .i64 0] 54 (0, 0)) := hf.blk (by have h := heap_alloc_new (w.alloc (.cells #[.bool up, .int .i64 run] 54)) (.cells #[.bool false, .int .i64 0] 54); rw [World.size_alloc] at h; exact h) (by simp)
  have d0 := blk_cell b1 0 rfl
  have d1 := blk_cell b1 1 rfl
  have g0 := blk_frozen b1 0
  have g1 := blk_frozen b1 1
  have hlt1 := lt_of_blk b1
  have HF := Lib.hid ((((Fr.refl [] w).alloc _).alloc _).trans hf (by simp)); clear hf b1
  go_wp2
  refine bodyPost_ret (v := .tuple #[.agg #[.bool false, .int .i64 0], .iface 30 (.int .i64 6)]) (by simp [results, Tryd.results28, go_sem, d0, d1]) rfl ?_
  refine ⟨rfl, ?_⟩
  repeat (first | exact HF.out | refine Fr.setCell ?_ (by right; simp) _)

set_option maxHeartbeats 1000000 in
theorem hstep_any (w : World) (up : Bool) (run rise fall : Int) (ok : Bool) (h : HOk up run rise fall) :
    Calls Tryd.prog 33 #[.agg #[.bool up, .int .i64 run], .bool ok, .int .i64 rise, .int .i64 fall] w fun e w' =>
      e = .returned (.tuple #[.agg #[.bool (stp (up, run) ok rise fall).1, .int .i64 (stp (up, run) ok rise fall).2], .nilIface]) ∧ Fr [] w w' := by
  have H := Lib.hid h; clear h
  go_enter Tryd.func33, Tryd.ntmps33
  go_wp2_with fail
  refine (steps_any _ up run rise fall _ 1 1 (fun _ => ok) (rd_one _ _ _ (by simp)) (by decide) H.out).mono ?_
  rintro e w1 ⟨rfl, hf⟩
  have b1 : w1.heap[w.heap.size + 1]? = some (.cells #[.bool false, .int .i64 0] 54 (0, 0)) := hf.blk (((Fr.refl [] _).alloc _).blk (by have h := heap_alloc_new (w.alloc (.cells #[.bool up, .int .i64 run] 54)) (.cells #[.bool false, .int .i64 0] 54); rw [World.size_alloc] at h; exact h) (by simp)) (by simp)
  have d0 := blk_cell b1 0 rfl
  have d1 := blk_cell b1 1 rfl
  have g0 := blk_frozen b1 0
  have g1 := blk_frozen b1 1
  have hlt1 := lt_of_blk b1
  have HF := Lib.hid ((((((Fr.refl [] w).alloc _).alloc _)).alloc _).trans hf (by simp)); clear hf b1
  have e1 : stps (up, run) (fun _ => ok) rise fall 1 = stp (up, run) ok rise fall := rfl
  rw [e1]
  clear e1
  generalize hss : stp (up, run) ok rise fall = s at *
  have HSS := Lib.hid hss; clear hss
  go_wp2
  refine bodyPost_ret (v := .tuple #[.agg #[.bool s.1, .int .i64 s.2], .nilIface]) (by simp [results, Tryd.results33, go_sem, d0, d1]) rfl ?_
  rw [HSS.out]
  refine ⟨rfl, ?_⟩
  repeat (first | exact HF.out | refine Fr.setCell ?_ (by right; simp) _)

/-- The example of the chapter comes out. -/
theorem probed_any (w : World) : Calls Tryd.prog 27 #[] w fun e w' => e = .returned (.bool true) ∧ Fr [] w w' := by
  go_enter Tryd.func27, Tryd.ntmps27
  go_wp2_with fail
  refine (steps_any _ true 0 3 2 _ 2 2 (fun _ => false) (rd_two _ _ _ _ _ (by simp) rfl rfl) (by decide) (by unfold HOk; decide)).mono ?_
  rintro e w1 ⟨rfl, hf⟩
  have e1 : stps (true, 0) (fun _ => false) 3 2 2 = (false, 0) := by decide
  rw [e1]
  have HF := Lib.hid (((Fr.refl [] w).alloc _).trans hf (by simp)); clear hf
  go_wp2
  go_ret
  exact ⟨rfl, by repeat (first | exact HF.out | refine Fr.alloc ?_ _ | refine Fr.setCell ?_ (by right; simp) _)⟩

end Go.Proofs.YtlinembnfcdmcaaDoor
