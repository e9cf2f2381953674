/- HealthTells: the walk. -/
import Derived.Test.YtlinembnfcdmcaaDoorHealthRef
import Derived.Test.YtlinembnfcdmcaaDoorDoor
import Derived.Deep.CutBlock
namespace Go.Proofs.YtlinembnfcdmcaaDoor
open Go.RowKit

theorem Fr.frz {S : List Nat} {w w' : World} (h : Fr S w w') {p : Addr} {v : Value} (hv : w.cell? p = some v) (hf : w.frozen? p = false) (hn : p.block ∉ S) : w'.frozen? p = false := by
  have hb := h.block p.block (World.block_lt_of_cell? w p hv) hn
  unfold World.frozen? at hf ⊢
  rw [hb]
  exact hf

theorem blk_after {w : World} {b : Nat} {cs : Array Value} {T : TypeId} (h : w.heap[b]? = some (.cells cs T (0, 0))) {S : List Nat} {w' : World} (hf : Fr S w w') (hb : b ∉ S) : w'.heap[b]? = some (.cells cs T (0, 0)) := hf.blk h hb

set_option maxRecDepth 100000 in
set_option maxHeartbeats 4000000 in
theorem healthTells_ok (w : World) (hg : Hand w) (up : Bool) (run rise fall : Int) (a : Option Addr) (n c : Nat) (ok : Nat → Bool) (hv : RdF w (.slice a n c) n (fun j => .bool (ok j))) (hn : n ≤ 140737488351232) (hok : HOk up run rise fall) :
    Calls Tryd.prog 7 #[.agg #[.bool up, .int .i64 run], .slice a n c, .int .i64 rise, .int .i64 fall] w fun e w' => e = .returned (.bool true) ∧ Fr [] w w' := by
  have HV := Lib.hid hv; clear hv
  have HG := Lib.hid hg; clear hg
  have HOK := Lib.hid hok; clear hok
  have hb0 := heap_alloc_new w (.cells #[.bool up, .int .i64 run] 54)
  have B0 := Lib.hid hb0; clear hb0
  go_enter Tryd.func7, Tryd.ntmps7
  go_wp2_with fail
  refine (probed_any _).mono ?_
  rintro e w1 ⟨rfl, hf1⟩
  have B1 := Lib.hid (hf1.blk B0.out (by simp)); clear B0
  have c0 := blk_cell B1.out 0 rfl
  have c1 := blk_cell B1.out 1 rfl
  have HF1 := Lib.hid (((Fr.refl [] w).alloc _).trans hf1 (by simp)); clear hf1
  go_wp2_with fail
  refine (hfault_ok _ up run rise fall HOK.out).mono ?_
  rintro e w2 ⟨rfl, hf2⟩
  have B2 := Lib.hid (hf2.blk B1.out (by simp)); clear B1 c0 c1
  have c0 := blk_cell B2.out 0 rfl
  have c1 := blk_cell B2.out 1 rfl
  have HF2 := Lib.hid (HF1.out.trans hf2 (by simp)); clear hf2
  go_wp2_with fail
  refine (check_ok _ up run rise fall HOK.out).mono ?_
  rintro e w3 ⟨rfl, hf3⟩
  have B3 := Lib.hid (hf3.blk B2.out (by simp)); clear B2 c0 c1
  have HF3 := Lib.hid (HF2.out.trans hf3 (by simp)); clear hf3
  go_wp2_with fail
  refine (error_any _ none 0 (HG.out.fr HF3.out (by simp))).mono ?_
  rintro e w4 ⟨rfl, hf4⟩
  have B4 := Lib.hid (hf4.blk B3.out (by simp)); clear B3
  have c0 := blk_cell B4.out 0 rfl
  have c1 := blk_cell B4.out 1 rfl
  have hl4 := lt_of_blk B4.out
  have HF4 := Lib.hid (HF3.out.trans hf4 (by simp)); clear hf4
  rw [show decide (numOf none = 0) = true from rfl]
  go_wp2
  have b12 : ((w4.alloc (.cells #[.bool up, .int .i64 run] 54)).alloc (.cells #[.bool false, .int .i64 0] 54)).heap[w4.heap.size]? = some (.cells #[.bool up, .int .i64 run] 54 (0, 0)) := ((Fr.refl [] _).alloc _).blk (heap_alloc_new w4 _) (by simp)
  have b13 : ((w4.alloc (.cells #[.bool up, .int .i64 run] 54)).alloc (.cells #[.bool false, .int .i64 0] 54)).heap[w4.heap.size + 1]? = some (.cells #[.bool false, .int .i64 0] 54 (0, 0)) := by
    have h := heap_alloc_new (w4.alloc (.cells #[.bool up, .int .i64 run] 54)) (.cells #[.bool false, .int .i64 0] 54)
    rw [World.size_alloc] at h
    exact h
  have B12 := Lib.hid b12; clear b12
  have B13 := Lib.hid b13; clear b13
  have B40 := Lib.hid ((((Fr.refl [] w4).alloc (.cells #[.bool up, .int .i64 run] 54)).alloc (.cells #[.bool false, .int .i64 0] 54)).blk B4.out (by simp))
  have HF40 := Lib.hid ((HF4.out.alloc (.cells #[.bool up, .int .i64 run] 54)).alloc (.cells #[.bool false, .int .i64 0] 54))
  generalize hw0 : (w4.alloc (.cells #[.bool up, .int .i64 run] 54)).alloc (.cells #[.bool false, .int .i64 0] 54) = w0 at *
  have HW0 := Lib.hid hw0; clear hw0
  have hs0 : w.heap.size ≤ w4.heap.size := HF4.out.size
  generalize w4.heap.size = p at *
  clear c0 c1 B4
  go_loopw [14] (fun i wr => ∃ k : Nat, k ≤ n ∧ i = .int .i64 k ∧ wr.heap[p]? = some (.cells #[.bool (stps (up, run) ok rise fall k).1, .int .i64 (stps (up, run) ok rise fall k).2] 54 (0, 0)) ∧
      wr.heap[p + 1]? = some (.cells #[.bool false, .int .i64 0] 54 (0, 0)) ∧ wr.heap[w.heap.size]? = some (.cells #[.bool up, .int .i64 run] 54 (0, 0)) ∧ Fr [] w wr) (fun i _ => n - (intOf i).toNat)
  case atStart => exact ⟨0, by omega, rfl, B12.out, B13.out, B40.out, HF40.out⟩
  case round =>
    obtain ⟨k, hk, rfl, b12, b13, b4, hf⟩ := hrel
    have hok := stps_ok (up, run) ok rise fall HOK.out k
    have hl13 := lt_of_blk b13
    by_cases hlt : k < n
    · obtain ⟨b, o, cap', he, hnc, hcm, hbw, hc⟩ := HV.out.shape (by omega)
      simp only [Value.slice.injEq, true_and] at he
      obtain ⟨rfl, rfl⟩ := he
      have hcb := hf.cell (hc k hlt) (by simp)
      clear hc
      have hst : stps (up, run) ok rise fall (k + 1) = stp ((stps (up, run) ok rise fall k).1, (stps (up, run) ok rise fall k).2) (ok k) rise fall := rfl
      have HST := Lib.hid hst; clear hst
      have x0 := blk_cell b12 0 rfl
      have x1 := blk_cell b12 1 rfl
      have z0 := blk_frozen b12 0
      have z1 := blk_frozen b12 1
      have k0 : (0 : Int) ≤ (k : Int) := by omega
      have k3 : (k : Int) < (n : Int) := by omega
      have X12 := Lib.hid b12; clear b12
      have X13 := Lib.hid b13; clear b13
      have X4 := Lib.hid b4; clear b4
      have HF := Lib.hid hf; clear hf
      have HOKk := Lib.hid hok; clear hok
      generalize hss : stps (up, run) ok rise fall k = s at *
      have HSS := Lib.hid hss; clear hss
      have HCALL := Lib.hid (probed3_any wr.drew s.1 s.2 rise fall (ok k) HOKk.out)
      go_upto_region 11 with fail
      go_region_with (go_at_call 32; refine Calls.mono HCALL.out ?_; rintro e w' ⟨rfl, hf⟩; have y0 := hf.cell (p := ⟨p, 0, none⟩) x0 (by simp); have y1 := hf.cell (p := ⟨p, 1, none⟩) x1 (by simp); have v0 := Fr.frz hf x0 z0 (by simp); have v1 := Fr.frz hf x1 z1 (by simp))
      all_goals
        have b12 := blk_set2 (hf.blk (((Fr.refl [] wr).drew).blk X12.out (by simp)) (by simp)) (.bool (stp (s.1, s.2) (ok k) rise fall).1) (.int .i64 (stp (s.1, s.2) (ok k) rise fall).2)
        have hff := (((HF.out.drew).trans hf (by simp)).setCell (p := ⟨p, 0, none⟩) (by right; exact hs0) (.bool (stp (s.1, s.2) (ok k) rise fall).1)).setCell (p := ⟨p, 1, none⟩) (by right; exact hs0) (.int .i64 (stp (s.1, s.2) (ok k) rise fall).2)
        have B12' := Lib.hid b12
        have HFF := Lib.hid hff
        clear b12 hff
        have X13' := Lib.hid (((((Fr.refl [p] wr).drew).trans hf (by simp)).setCell (p := ⟨p, 0, none⟩) (by simp) (.bool (stp (s.1, s.2) (ok k) rise fall).1)).setCell (p := ⟨p, 1, none⟩) (by simp) (.int .i64 (stp (s.1, s.2) (ok k) rise fall).2))
        go_wp2
        go_roundw
        case rel => exact ⟨k + 1, by omega, by go_num, by rw [HST.out]; exact B12'.out, X13'.out.blk X13.out (by simp), X13'.out.blk X4.out (by simp; omega), HFF.out⟩
        case measure => simp [intOf]; omega
    · obtain rfl : k = n := by omega
      have B12 := Lib.hid b12
      have B13 := Lib.hid b13
      have B4 := Lib.hid b4
      have HF := Lib.hid hf
      clear b12 b13 b4 hf hok hl13
      have a0 := blk_cell B4.out 0 rfl
      have a1 := blk_cell B4.out 1 rfl
      have hne : p + 1 ≠ w.heap.size := by omega
      go_wp2_with fail
      refine (probed3_any _ up run rise fall true HOK.out).mono ?_
      rintro e w5 ⟨rfl, hf5⟩
      generalize hone : stp (up, run) true rise fall = one at *
      have HONE := Lib.hid hone; clear hone
      have B125 := Lib.hid (hf5.blk B12.out (by simp))
      have B135 := Lib.hid (hf5.blk B13.out (by simp))
      have B45 := Lib.hid (hf5.blk B4.out (by simp))
      have HF5 := Lib.hid (HF.out.trans hf5 (by simp))
      clear a0 a1 hf5
      have y0 := blk_cell B135.out 0 rfl
      have y1 := blk_cell B135.out 1 rfl
      have v0 := blk_frozen B135.out 0
      have v1 := blk_frozen B135.out 1
      have fs : Fr [p + 1] w5 ((w5.setCell ⟨p + 1, 0, none⟩ (.bool one.1)).setCell ⟨p + 1, 1, none⟩ (.int .i64 one.2)) := ((Fr.refl [p + 1] w5).setCell (by simp) _).setCell (by simp) _
      have B126 := Lib.hid (fs.blk B125.out (by simp))
      have B136 := Lib.hid (blk_set2 B135.out (.bool one.1) (.int .i64 one.2))
      have B46 := Lib.hid (fs.blk B45.out (by simpa using hne.symm))
      have HF6 := Lib.hid (HF5.out.trans fs (fun x hx => .inr (by simp at hx; omega)))
      clear fs
      have a0 := blk_cell B46.out 0 rfl
      have a1 := blk_cell B46.out 1 rfl
      go_wp2_with fail
      clear y0 y1 v0 v1
      refine (steps_any _ up run rise fall a k c ok (HV.out.fr HF6.out (by simp)) (by omega) HOK.out).mono ?_
      rintro e w7 ⟨rfl, hf7⟩
      have B127 := Lib.hid (hf7.blk B126.out (by simp))
      have B137 := Lib.hid (hf7.blk B136.out (by simp))
      have B47 := Lib.hid (hf7.blk B46.out (by simp))
      have HF7 := Lib.hid (HF6.out.trans hf7 (by simp))
      clear a0 a1 hf7 B126 B136 B46 B125 B135 B45
      generalize hss : stps (up, run) ok rise fall k = s at *
      have HSS := Lib.hid hss; clear hss
      have hl7 := lt_of_blk B127.out
      have hl7b := lt_of_blk B137.out
      have hl7c := lt_of_blk B47.out
      go_wp2_with fail
      have B15 := Lib.hid (heap_alloc_new w7 (.cells #[.bool s.1, .int .i64 s.2] 54))
      have HF8 := Lib.hid (HF7.out.alloc (.cells #[.bool s.1, .int .i64 s.2] 54))
      have fal := (Fr.refl [] w7).alloc (.cells #[.bool s.1, .int .i64 s.2] 54)
      have B128 := Lib.hid (fal.blk B127.out (by simp))
      have B138 := Lib.hid (fal.blk B137.out (by simp))
      have B48 := Lib.hid (fal.blk B47.out (by simp))
      clear fal
      refine (error_any _ none 0 (HG.out.fr HF8.out (by simp))).mono ?_
      rintro e w9 ⟨rfl, hf9⟩
      have B159 := Lib.hid (hf9.blk B15.out (by simp))
      have B129 := Lib.hid (hf9.blk B128.out (by simp))
      have B139 := Lib.hid (hf9.blk B138.out (by simp))
      have B49 := Lib.hid (hf9.blk B48.out (by simp))
      have HF9 := Lib.hid (HF8.out.trans hf9 (by simp))
      have hs9 : w7.heap.size < w9.heap.size := by have := hf9.size; simp at this; omega
      clear hf9
      rw [show decide (numOf none = 0) = true from rfl]
      have a0 := blk_cell B49.out 0 rfl
      have a1 := blk_cell B49.out 1 rfl
      go_wp2_with fail
      refine (hstep_any _ up run rise fall true HOK.out).mono ?_
      rintro e w10 ⟨rfl, hf10⟩
      rw [HONE.out]
      have B1510 := Lib.hid (hf10.blk B159.out (by simp))
      have B1210 := Lib.hid (hf10.blk B129.out (by simp))
      have B1310 := Lib.hid (hf10.blk B139.out (by simp))
      have HF10 := Lib.hid (HF9.out.trans hf10 (by simp))
      have hs10 : w7.heap.size < w10.heap.size := by have := hf10.size; omega
      clear hf10 a0 a1
      go_wp2_with fail
      have B18 := Lib.hid (heap_alloc_new w10 (.cells #[.bool one.1, .int .i64 one.2] 54))
      have HF11 := Lib.hid (HF10.out.alloc (.cells #[.bool one.1, .int .i64 one.2] 54))
      have fal := (Fr.refl [] w10).alloc (.cells #[.bool one.1, .int .i64 one.2] 54)
      have B1511 := Lib.hid (fal.blk B1510.out (by simp))
      have B1211 := Lib.hid (fal.blk B1210.out (by simp))
      have B1311 := Lib.hid (fal.blk B1310.out (by simp))
      clear fal
      refine (error_any _ none 0 (HG.out.fr HF11.out (by simp))).mono ?_
      rintro e w12 ⟨rfl, hf12⟩
      have g0 := blk_cell (hf12.blk B18.out (by simp)) 0 rfl
      have g1 := blk_cell (hf12.blk B18.out (by simp)) 1 rfl
      have g2 := blk_cell (hf12.blk B1511.out (by simp)) 0 rfl
      have g3 := blk_cell (hf12.blk B1511.out (by simp)) 1 rfl
      have g4 := blk_cell (hf12.blk B1211.out (by simp)) 0 rfl
      have g5 := blk_cell (hf12.blk B1211.out (by simp)) 1 rfl
      have g6 := blk_cell (hf12.blk B1311.out (by simp)) 0 rfl
      have g7 := blk_cell (hf12.blk B1311.out (by simp)) 1 rfl
      have HF12 := Lib.hid (HF11.out.trans hf12 (by simp))
      clear hf12
      rw [show decide (numOf none = 0) = true from rfl]
      go_wp2
      go_ret
      exact ⟨by simp, HF12.out⟩

set_option maxHeartbeats 1000000 in
theorem hstep_bad (w : World) (up : Bool) (run rise fall : Int) (ok : Bool) (h : ¬ HOk up run rise fall) :
    Calls Tryd.prog 33 #[.agg #[.bool up, .int .i64 run], .bool ok, .int .i64 rise, .int .i64 fall] w fun e w' =>
      e = .returned (.tuple #[.agg #[.bool false, .int .i64 0], .iface 30 (.int .i64 6)]) ∧ Fr [] w w' := by
  have H := Lib.hid h; clear h
  go_enter Tryd.func33, Tryd.ntmps33
  go_wp2_with fail
  refine (steps_bad _ up run rise fall _ 1 1 H.out).mono ?_
  rintro e w1 ⟨rfl, hf⟩
  have b1 : w1.heap[w.heap.size + 1]? = some (.cells #[.bool false, .int .i64 0] 54 (0, 0)) := hf.blk (((Fr.refl [] _).alloc _).blk (by have h := heap_alloc_new (w.alloc (.cells #[.bool up, .int .i64 run] 54)) (.cells #[.bool false, .int .i64 0] 54); rw [World.size_alloc] at h; exact h) (by simp)) (by simp)
  have d0 := blk_cell b1 0 rfl
  have d1 := blk_cell b1 1 rfl
  have g0 := blk_frozen b1 0
  have g1 := blk_frozen b1 1
  have hlt1 := lt_of_blk b1
  have HF := Lib.hid ((((((Fr.refl [] w).alloc _).alloc _)).alloc _).trans hf (by simp)); clear hf b1
  go_wp2
  refine bodyPost_ret (v := .tuple #[.agg #[.bool false, .int .i64 0], .iface 30 (.int .i64 6)]) (by simp [results, Tryd.results33, go_sem, d0, d1]) rfl ?_
  refine ⟨rfl, ?_⟩
  repeat (first | exact HF.out | refine Fr.setCell ?_ (by right; simp) _)

set_option maxRecDepth 100000 in
set_option maxHeartbeats 4000000 in
theorem healthTells_bad (w : World) (hg : Hand w) (up : Bool) (run rise fall : Int) (a : Option Addr) (n c : Nat) (hok : ¬ HOk up run rise fall) :
    Calls Tryd.prog 7 #[.agg #[.bool up, .int .i64 run], .slice a n c, .int .i64 rise, .int .i64 fall] w fun e w' => e = .returned (.bool true) ∧ Fr [] w w' := by
  have HG := Lib.hid hg; clear hg
  have HOK := Lib.hid hok; clear hok
  have hb0 := heap_alloc_new w (.cells #[.bool up, .int .i64 run] 54)
  have B0 := Lib.hid hb0; clear hb0
  go_enter Tryd.func7, Tryd.ntmps7
  go_wp2_with fail
  refine (probed_any _).mono ?_
  rintro e w1 ⟨rfl, hf1⟩
  have B1 := Lib.hid (hf1.blk B0.out (by simp)); clear B0
  have c0 := blk_cell B1.out 0 rfl
  have c1 := blk_cell B1.out 1 rfl
  have HF1 := Lib.hid (((Fr.refl [] w).alloc _).trans hf1 (by simp)); clear hf1
  go_wp2_with fail
  refine (hfault_bad _ up run rise fall HOK.out).mono ?_
  rintro e w2 ⟨rfl, hf2⟩
  have B2 := Lib.hid (hf2.blk B1.out (by simp)); clear B1 c0 c1
  have c0 := blk_cell B2.out 0 rfl
  have c1 := blk_cell B2.out 1 rfl
  have HF2 := Lib.hid (HF1.out.trans hf2 (by simp)); clear hf2
  go_wp2_with fail
  refine (check_bad _ up run rise fall HOK.out).mono ?_
  rintro e w3 ⟨rfl, hf3⟩
  have B3 := Lib.hid (hf3.blk B2.out (by simp)); clear B2 c0 c1
  have HF3 := Lib.hid (HF2.out.trans hf3 (by simp)); clear hf3
  go_wp2_with fail
  refine (error_any _ (some 6) 6 (HG.out.fr HF3.out (by simp))).mono ?_
  rintro e w4 ⟨rfl, hf4⟩
  have B4 := Lib.hid (hf4.blk B3.out (by simp)); clear B3
  have HF4 := Lib.hid (HF3.out.trans hf4 (by simp)); clear hf4
  rw [show decide (numOf (some 6) = 6) = true from rfl]
  have B12 := Lib.hid (show ((w4.alloc (.cells #[.bool false, .int .i64 0] 54)).alloc (.cells #[.bool false, .int .i64 0] 54)).heap[w4.heap.size]? = some (.cells #[.bool false, .int .i64 0] 54 (0, 0)) from ((Fr.refl [] _).alloc _).blk (heap_alloc_new w4 _) (by simp))
  have B13 := Lib.hid (show ((w4.alloc (.cells #[.bool false, .int .i64 0] 54)).alloc (.cells #[.bool false, .int .i64 0] 54)).heap[w4.heap.size + 1]? = some (.cells #[.bool false, .int .i64 0] 54 (0, 0)) from by
    have h := heap_alloc_new (w4.alloc (.cells #[.bool false, .int .i64 0] 54)) (.cells #[.bool false, .int .i64 0] 54)
    rw [World.size_alloc] at h
    exact h)
  have fal := ((Fr.refl [] w4).alloc (.cells #[.bool false, .int .i64 0] 54)).alloc (.cells #[.bool false, .int .i64 0] 54)
  have B5 := Lib.hid (fal.blk B4.out (by simp))
  have HF5 := Lib.hid (HF4.out.trans fal (by simp))
  clear fal
  have c0 := blk_cell B5.out 0 rfl
  have c1 := blk_cell B5.out 1 rfl
  go_wp2_with fail
  refine (steps_bad _ up run rise fall a n c HOK.out).mono ?_
  rintro e w7 ⟨rfl, hf7⟩
  have B127 := Lib.hid (hf7.blk B12.out (by simp))
  have B137 := Lib.hid (hf7.blk B13.out (by simp))
  have B47 := Lib.hid (hf7.blk B5.out (by simp))
  have HF7 := Lib.hid (HF5.out.trans hf7 (by simp))
  clear c0 c1 hf7
  have hl7 := lt_of_blk B127.out
  have hl7b := lt_of_blk B137.out
  have hl7c := lt_of_blk B47.out
  go_wp2_with fail
  have B15 := Lib.hid (heap_alloc_new w7 (.cells #[.bool false, .int .i64 0] 54))
  have HF8 := Lib.hid (HF7.out.alloc (.cells #[.bool false, .int .i64 0] 54))
  have fal := (Fr.refl [] w7).alloc (.cells #[.bool false, .int .i64 0] 54)
  have B128 := Lib.hid (fal.blk B127.out (by simp))
  have B138 := Lib.hid (fal.blk B137.out (by simp))
  have B48 := Lib.hid (fal.blk B47.out (by simp))
  clear fal
  refine (error_any _ (some 6) 6 (HG.out.fr HF8.out (by simp))).mono ?_
  rintro e w9 ⟨rfl, hf9⟩
  have B159 := Lib.hid (hf9.blk B15.out (by simp))
  have B129 := Lib.hid (hf9.blk B128.out (by simp))
  have B139 := Lib.hid (hf9.blk B138.out (by simp))
  have B49 := Lib.hid (hf9.blk B48.out (by simp))
  have HF9 := Lib.hid (HF8.out.trans hf9 (by simp))
  have hs9 : w7.heap.size < w9.heap.size := by have := hf9.size; simp at this; omega
  clear hf9
  rw [show decide (numOf (some 6) = 6) = true from rfl]
  have c0 := blk_cell B49.out 0 rfl
  have c1 := blk_cell B49.out 1 rfl
  go_wp2_with fail
  refine (hstep_bad _ up run rise fall true HOK.out).mono ?_
  rintro e w10 ⟨rfl, hf10⟩
  have B1510 := Lib.hid (hf10.blk B159.out (by simp))
  have B1210 := Lib.hid (hf10.blk B129.out (by simp))
  have B1310 := Lib.hid (hf10.blk B139.out (by simp))
  have HF10 := Lib.hid (HF9.out.trans hf10 (by simp))
  have hs10 : w7.heap.size < w10.heap.size := by have := hf10.size; omega
  clear hf10 c0 c1
  go_wp2_with fail
  have B18 := Lib.hid (heap_alloc_new w10 (.cells #[.bool false, .int .i64 0] 54))
  have HF11 := Lib.hid (HF10.out.alloc (.cells #[.bool false, .int .i64 0] 54))
  have fal := (Fr.refl [] w10).alloc (.cells #[.bool false, .int .i64 0] 54)
  have B1511 := Lib.hid (fal.blk B1510.out (by simp))
  have B1211 := Lib.hid (fal.blk B1210.out (by simp))
  have B1311 := Lib.hid (fal.blk B1310.out (by simp))
  clear fal
  refine (error_any _ (some 6) 6 (HG.out.fr HF11.out (by simp))).mono ?_
  rintro e w12 ⟨rfl, hf12⟩
  have g0 := blk_cell (hf12.blk B18.out (by simp)) 0 rfl
  have g1 := blk_cell (hf12.blk B18.out (by simp)) 1 rfl
  have g2 := blk_cell (hf12.blk B1511.out (by simp)) 0 rfl
  have g3 := blk_cell (hf12.blk B1511.out (by simp)) 1 rfl
  have g4 := blk_cell (hf12.blk B1211.out (by simp)) 0 rfl
  have g5 := blk_cell (hf12.blk B1211.out (by simp)) 1 rfl
  have g6 := blk_cell (hf12.blk B1311.out (by simp)) 0 rfl
  have g7 := blk_cell (hf12.blk B1311.out (by simp)) 1 rfl
  have HF12 := Lib.hid (HF11.out.trans hf12 (by simp))
  clear hf12
  rw [show decide (numOf (some 6) = 6) = true from rfl]
  go_wp2
  go_ret
  exact ⟨rfl, HF12.out⟩

theorem healthTells_any (w : World) (hg : Hand w) (up : Bool) (run rise fall : Int) (a : Option Addr) (n c : Nat) (ok : Nat → Bool) (hv : RdF w (.slice a n c) n (fun j => .bool (ok j))) (hn : n ≤ 140737488351232) :
    Calls Tryd.prog 7 #[.agg #[.bool up, .int .i64 run], .slice a n c, .int .i64 rise, .int .i64 fall] w fun e w' => e = .returned (.bool true) ∧ Fr [] w w' := by
  by_cases h : HOk up run rise fall
  · exact healthTells_ok w hg up run rise fall a n c ok hv hn h
  · exact healthTells_bad w hg up run rise fall a n c h

end Go.Proofs.YtlinembnfcdmcaaDoor
