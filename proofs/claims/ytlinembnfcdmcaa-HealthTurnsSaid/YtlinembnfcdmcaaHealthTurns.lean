/- HealthTurns: the walk. -/
import Derived.Test.YtlinembnfcdmcaaHealth
namespace Go.Proofs.Ytlinembnfcdmcaa
open Go.RowKit

theorem stps_const (s : Bool × Int) (b : Bool) (rise fall : Int) (k : Nat) : (stps s (fun _ => b) rise fall k).1 = b ∨ ((stps s (fun _ => b) rise fall k).1 = !b ∧ (stps s (fun _ => b) rise fall k).2 = s.2 + k) := by
  induction k with
  | zero =>
    by_cases h : s.1 = b
    · exact .inl h
    · refine .inr ⟨?_, by simp [stps]⟩
      show s.1 = !b
      cases hb : s.1 <;> cases b <;> simp_all
  | succ k ih =>
    simp only [stps]
    generalize stps s (fun _ => b) rise fall k = u at *
    unfold stp
    by_cases c1 : b = u.1
    · rw [if_pos c1]; exact .inl c1.symm
    · rw [if_neg c1]
      rcases ih with ih | ⟨ih1, ih2⟩
      · exact absurd ih.symm c1
      · by_cases c2 : u.2 + 1 = tn u.1 rise fall
        · rw [if_pos c2]; left; simp [ih1]
        · rw [if_neg c2]; right; exact ⟨ih1, by simp only [ih2]; omega⟩

theorem stps_turned (s : Bool × Int) (b : Bool) (rise fall : Int) (N : Nat) (h : HOk s.1 s.2 rise fall) (h1 : rise ≤ N) (h2 : fall ≤ N) : (stps s (fun _ => b) rise fall N).1 = b := by
  rcases stps_const s b rise fall N with h3 | ⟨h3, h4⟩
  · exact h3
  · exfalso
    have h5 := stps_ok s (fun _ => b) rise fall h N
    obtain ⟨_, _, _, _, _, h6⟩ := h5
    have h7 := h.2.2.2.2.1
    rw [h4] at h6
    unfold tn at h6
    split at h6 <;> omega

theorem infoBool : (Try.prog.info? 4).map (fun i => (i.zero, i.size, i.bytes)) = some (some (.bool false), 1, 1) := by kernel_rfl

theorem new_after {W wr w' : World} {B : Nat} {o : Obj} (hF : Fr [] W wr) (hf : Fr [] wr.drew w') (hb : wr.heap[B]? = some o) (x y : Value) (T : TypeId) :
    (w'.alloc (.cells #[x, y] T)).heap[w'.heap.size]? = some (.cells #[x, y] T (0, 0)) ∧ (w'.alloc (.cells #[x, y] T)).heap[B]? = some o ∧ B < w'.heap.size ∧ Fr [] W (w'.alloc (.cells #[x, y] T)) :=
  ⟨heap_alloc_new w' _, ((Fr.refl [] w').alloc _).blk (hf.blk hb (by simp)) (by simp), Nat.lt_of_lt_of_le (lt_of_blk hb) hf.size, (hF.drew.trans hf (by simp)).alloc _⟩

theorem new_before {W wr w' : World} {B : Nat} {o : Obj} {u v : Value} {T : TypeId} (hF : Fr [] W wr) (hf : Fr [] (wr.drew.alloc (.cells #[u, v] T)) w') (hb : wr.heap[B]? = some o) (x y : Value) :
    ((w'.setCell ⟨wr.heap.size, 0, none⟩ x).setCell ⟨wr.heap.size, 1, none⟩ y).heap[wr.heap.size]? = some (.cells #[x, y] T (0, 0)) ∧
    ((w'.setCell ⟨wr.heap.size, 0, none⟩ x).setCell ⟨wr.heap.size, 1, none⟩ y).heap[B]? = some o ∧ B < wr.heap.size ∧ Fr [] W ((w'.setCell ⟨wr.heap.size, 0, none⟩ x).setCell ⟨wr.heap.size, 1, none⟩ y) := by
  have hlt := lt_of_blk hb
  refine ⟨blk_set2 (hf.blk (heap_alloc_new wr.drew _) (by simp)) x y, ?_, hlt, ?_⟩
  · have h2 := hf.blk (((Fr.refl [] wr.drew).alloc _).blk hb (by simp)) (by simp)
    exact (((Fr.refl [wr.heap.size] w').setCell (p := ⟨wr.heap.size, 0, none⟩) (by simp) x).setCell (p := ⟨wr.heap.size, 1, none⟩) (by simp) y).blk h2 (by simp; omega)
  · exact (((hF.drew.alloc _).trans hf (by simp)).setCell (by right; exact hF.size) x).setCell (by right; exact hF.size) y

set_option maxRecDepth 100000 in
set_option maxHeartbeats 4000000 in
theorem healthTurns_any (w : World) (up : Bool) (run rise fall : Int) (a : Option Addr) (n c : Nat) (ok : Nat → Bool) (hv : RdF w (.slice a n c) n (fun j => .bool (ok j))) (hn : n ≤ 9223372036854775807) :
    Calls Try.prog 5 #[.agg #[.bool up, .int .i64 run], .slice a n c, .int .i64 rise, .int .i64 fall] w fun e w' => e = .returned (.bool true) ∧ Fr [] w w' := by
  have HV := Lib.hid hv; clear hv
  by_cases hok : HOk up run rise fall
  · have HOK := Lib.hid hok; clear hok
    go_enter Try.func5, Try.ntmps5
    go_wp2_with fail
    refine (probed_any _).mono ?_
    rintro e w1 ⟨rfl, hf⟩
    have b0 : w1.heap[w.heap.size]? = some (.cells #[.bool up, .int .i64 run] 42 (0, 0)) := hf.blk (heap_alloc_new w _) (by simp)
    have HF := Lib.hid (((Fr.refl [] w).alloc _).trans hf (by simp)); clear hf
    have c0 := blk_cell b0 0 rfl
    have c1 := blk_cell b0 1 rfl
    have B0 := Lib.hid b0; clear b0
    go_wp2_with fail
    refine (check_ok _ up run rise fall HOK.out).mono ?_
    rintro e w2 ⟨rfl, hf⟩
    have b0 := hf.blk B0.out (by simp)
    have HF2 := Lib.hid (HF.out.trans hf (by simp)); clear hf
    have c0 := blk_cell b0 0 rfl
    have c1 := blk_cell b0 1 rfl
    have B02 := Lib.hid b0; clear b0
    by_cases h60 : 60 < n
    · go_wp2
      go_ret
      exact ⟨rfl, HF2.out⟩
    go_wp2
    go_loopw [10, 11, 12] (fun u r i wr => ∃ k : Nat, k ≤ n ∧ i = .int .i64 k ∧ u = .bool (stps (up, run) ok rise fall k).1 ∧ r = .int .i64 (stps (up, run) ok rise fall k).2 ∧
        wr.heap[w.heap.size]? = some (.cells #[.bool (stps (up, run) ok rise fall k).1, .int .i64 (stps (up, run) ok rise fall k).2] 42 (0, 0)) ∧ Fr [] w wr) (fun _ _ i _ => n - (intOf i).toNat)
    case atStart => exact ⟨0, by omega, rfl, rfl, rfl, B02.out, HF2.out⟩
    case round =>
      obtain ⟨k, hk, rfl, rfl, rfl, b0, hf⟩ := hrel
      have hok := stps_ok (up, run) ok rise fall HOK.out k
      by_cases hlt : k < n
      · obtain ⟨b, o, cap', he, hnc, hcm, hbw, hc⟩ := HV.out.shape (by omega)
        simp only [Value.slice.injEq, true_and] at he
        obtain ⟨rfl, rfl⟩ := he
        have hcb := hf.cell (hc k hlt) (by simp)
        have HCK := Lib.hid (hc k hlt)
        clear hc
        have hst : stps (up, run) ok rise fall (k + 1) = stp (stps (up, run) ok rise fall k) (ok k) rise fall := rfl
        have HST := Lib.hid hst; clear hst
        generalize stps (up, run) ok rise fall k = s at *
        obtain ⟨su, sr⟩ := s
        dsimp only at *
        generalize ok k = okk at *
        have c0 := blk_cell b0 0 rfl
        have c1 := blk_cell b0 1 rfl
        have B0 := Lib.hid b0; clear b0
        have HF := Lib.hid hf; clear hf
        have HOK2 := Lib.hid hok; clear hok
        go_upto_region 11 with fail
        go_cut [13, 14] (fun x e wy => e = .nilIface ∧ ∃ px, x = .pointer (some ⟨px, 0, none⟩) ∧ wy.heap[px]? = some (.cells #[.bool (stp (su, sr) okk rise fall).1, .int .i64 (stp (su, sr) okk rise fall).2] 42 (0, 0)) ∧
            wy.heap[w.heap.size]? = some (.cells #[.bool su, .int .i64 sr] 42 (0, 0)) ∧ w.heap.size < px ∧ Fr [] w wy)
        case first =>
          have a1 := fun ob => ((Fr.refl [] wr).alloc ob).cell hcb (by simp)
          have a2 := fun ob => ((Fr.refl [] wr).alloc ob).cell c0 (by simp)
          have a3 := fun ob => ((Fr.refl [] wr).alloc ob).cell c1 (by simp)
          go_region_with (go_at_call 19; refine (hstep_any _ su sr rise fall okk HOK2.out).mono ?_; rintro e w' ⟨rfl, hf⟩; (try (have q0 := hf.blk (b := wr.heap.size) (heap_alloc_new wr.drew _) (by simp); have q1 := blk_cell q0 0 rfl; have q2 := blk_cell q0 1 rfl; have q3 := blk_frozen q0 0; have q4 := blk_frozen q0 1; have q5 := lt_of_blk q0; clear q0)))
          all_goals (go_wp2_with fail; go_meet)
          all_goals first
            | exact ⟨rfl, _, rfl, new_after HF.out hf B0.out _ _ _⟩
            | exact ⟨rfl, _, rfl, new_before HF.out hf B0.out _ _⟩
        case rest =>
          obtain ⟨rfl, px, rfl, bx, b0, hpx, hf⟩ := hcut
          have hnew := stp_ok (su, sr) okk rise fall HOK2.out
          have HNEW := Lib.hid hnew; clear hnew
          have HF3 := Lib.hid hf; clear hf
          clear hcb c0 c1
          have h8 : 0 ≤ sr := HOK2.out.2.2.2.2.1
          have h9 : sr < tn su rise fall := HOK2.out.2.2.2.2.2
          have h10 := HOK.out.1
          have h11 := HOK.out.2.2.1
          have h12 := HOK.out.2.1
          have h13 := HOK.out.2.2.2.1
          cases okk <;> cases su
          · have es : stp (false, sr) false rise fall = (false, 0) := by simp [stp]
            rw [es] at bx HST HNEW
            clear es
            have hq : ((0 : Int) == rise) = false := by simp; omega
            have hcb2 := HF3.out.cell HCK.out (by simp)
            have e0 := blk_cell bx 0 rfl
            have e1 := blk_cell bx 1 rfl
            have BX := Lib.hid bx; clear bx
            have B0' := Lib.hid b0; clear b0
            go_wp2_with fail
            refine (check_ok _ false 0 rise fall HNEW.out).mono ?_
            rintro e w' ⟨rfl, hf⟩
            have bx := hf.blk BX.out (by simp)
            have b0 := hf.blk B0'.out (by simp)
            have hf4 := HF3.out.trans hf (by simp)
            clear e0 e1 hcb2
            have e0 := blk_cell bx 0 rfl
            have e1 := blk_cell bx 1 rfl
            have e2 := blk_cell b0 0 rfl
            have e3 := blk_cell b0 1 rfl
            have e4 := blk_frozen b0 0
            have e5 := blk_frozen b0 1
            have hfin : ((w'.setCell ⟨w.heap.size, 0, none⟩ (.bool false)).setCell ⟨w.heap.size, 1, none⟩ (.int .i64 (0))).heap[w.heap.size]? = some (.cells #[.bool false, .int .i64 (0)] 42 (0, 0)) ∧ Fr [] w ((w'.setCell ⟨w.heap.size, 0, none⟩ (.bool false)).setCell ⟨w.heap.size, 1, none⟩ (.int .i64 (0))) := ⟨blk_set2 b0 _ _, (hf4.setCell (by right; simp) _).setCell (by right; simp) _⟩
            have HFIN := Lib.hid hfin
            clear hfin hf hf4 bx b0
            go_wp2
            go_roundw
            case rel => exact ⟨k + 1, by omega, by go_num, by rw [HST.out], by rw [HST.out], by rw [HST.out]; exact HFIN.out.1, HFIN.out.2⟩
            case measure => simp [intOf]; omega
          · have es : stp (true, sr) false rise fall = if sr + 1 = fall then (false, 0) else (true, sr + 1) := by simp [stp, tn]
            have h9' : sr < fall := h9
            by_cases c2 : sr + 1 = fall
            · rw [if_pos c2] at es
              rw [es] at bx HST HNEW
              clear es
              have hq : (sr + 1 == fall) = true := by simp [c2]
              clear c2 h9
              have hcb2 := HF3.out.cell HCK.out (by simp)
              have e0 := blk_cell bx 0 rfl
              have e1 := blk_cell bx 1 rfl
              have BX := Lib.hid bx; clear bx
              have B0' := Lib.hid b0; clear b0
              go_wp2_with fail
              refine (check_ok _ false 0 rise fall HNEW.out).mono ?_
              rintro e w' ⟨rfl, hf⟩
              have bx := hf.blk BX.out (by simp)
              have b0 := hf.blk B0'.out (by simp)
              have hf4 := HF3.out.trans hf (by simp)
              clear e0 e1 hcb2
              have e0 := blk_cell bx 0 rfl
              have e1 := blk_cell bx 1 rfl
              have e2 := blk_cell b0 0 rfl
              have e3 := blk_cell b0 1 rfl
              have e4 := blk_frozen b0 0
              have e5 := blk_frozen b0 1
              have hfin : ((w'.setCell ⟨w.heap.size, 0, none⟩ (.bool false)).setCell ⟨w.heap.size, 1, none⟩ (.int .i64 (0))).heap[w.heap.size]? = some (.cells #[.bool false, .int .i64 (0)] 42 (0, 0)) ∧ Fr [] w ((w'.setCell ⟨w.heap.size, 0, none⟩ (.bool false)).setCell ⟨w.heap.size, 1, none⟩ (.int .i64 (0))) := ⟨blk_set2 b0 _ _, (hf4.setCell (by right; simp) _).setCell (by right; simp) _⟩
              have HFIN := Lib.hid hfin
              clear hfin hf hf4 bx b0
              go_wp2
              go_roundw
              case rel => exact ⟨k + 1, by omega, by go_num, by rw [HST.out], by rw [HST.out], by rw [HST.out]; exact HFIN.out.1, HFIN.out.2⟩
              case measure => simp [intOf]; omega
            · rw [if_neg c2] at es
              rw [es] at bx HST HNEW
              clear es
              have hq : (sr + 1 == fall) = false := by simp [c2]
              clear c2 h9
              have hcb2 := HF3.out.cell HCK.out (by simp)
              have e0 := blk_cell bx 0 rfl
              have e1 := blk_cell bx 1 rfl
              have BX := Lib.hid bx; clear bx
              have B0' := Lib.hid b0; clear b0
              go_wp2_with fail
              refine (check_ok _ true (sr + 1) rise fall HNEW.out).mono ?_
              rintro e w' ⟨rfl, hf⟩
              have bx := hf.blk BX.out (by simp)
              have b0 := hf.blk B0'.out (by simp)
              have hf4 := HF3.out.trans hf (by simp)
              clear e0 e1 hcb2
              have e0 := blk_cell bx 0 rfl
              have e1 := blk_cell bx 1 rfl
              have e2 := blk_cell b0 0 rfl
              have e3 := blk_cell b0 1 rfl
              have e4 := blk_frozen b0 0
              have e5 := blk_frozen b0 1
              have hfin : ((w'.setCell ⟨w.heap.size, 0, none⟩ (.bool true)).setCell ⟨w.heap.size, 1, none⟩ (.int .i64 (sr + 1))).heap[w.heap.size]? = some (.cells #[.bool true, .int .i64 (sr + 1)] 42 (0, 0)) ∧ Fr [] w ((w'.setCell ⟨w.heap.size, 0, none⟩ (.bool true)).setCell ⟨w.heap.size, 1, none⟩ (.int .i64 (sr + 1))) := ⟨blk_set2 b0 _ _, (hf4.setCell (by right; simp) _).setCell (by right; simp) _⟩
              have HFIN := Lib.hid hfin
              clear hfin hf hf4 bx b0
              go_wp2
              go_roundw
              case rel => exact ⟨k + 1, by omega, by go_num, by rw [HST.out], by rw [HST.out], by rw [HST.out]; exact HFIN.out.1, HFIN.out.2⟩
              case measure => simp [intOf]; omega
          · have es : stp (false, sr) true rise fall = if sr + 1 = rise then (true, 0) else (false, sr + 1) := by simp [stp, tn]
            have h9' : sr < rise := h9
            by_cases c2 : sr + 1 = rise
            · rw [if_pos c2] at es
              rw [es] at bx HST HNEW
              clear es
              have hq : (sr + 1 == rise) = true := by simp [c2]
              clear c2 h9
              have hcb2 := HF3.out.cell HCK.out (by simp)
              have e0 := blk_cell bx 0 rfl
              have e1 := blk_cell bx 1 rfl
              have BX := Lib.hid bx; clear bx
              have B0' := Lib.hid b0; clear b0
              go_wp2_with fail
              refine (check_ok _ true 0 rise fall HNEW.out).mono ?_
              rintro e w' ⟨rfl, hf⟩
              have bx := hf.blk BX.out (by simp)
              have b0 := hf.blk B0'.out (by simp)
              have hf4 := HF3.out.trans hf (by simp)
              clear e0 e1 hcb2
              have e0 := blk_cell bx 0 rfl
              have e1 := blk_cell bx 1 rfl
              have e2 := blk_cell b0 0 rfl
              have e3 := blk_cell b0 1 rfl
              have e4 := blk_frozen b0 0
              have e5 := blk_frozen b0 1
              have hfin : ((w'.setCell ⟨w.heap.size, 0, none⟩ (.bool true)).setCell ⟨w.heap.size, 1, none⟩ (.int .i64 (0))).heap[w.heap.size]? = some (.cells #[.bool true, .int .i64 (0)] 42 (0, 0)) ∧ Fr [] w ((w'.setCell ⟨w.heap.size, 0, none⟩ (.bool true)).setCell ⟨w.heap.size, 1, none⟩ (.int .i64 (0))) := ⟨blk_set2 b0 _ _, (hf4.setCell (by right; simp) _).setCell (by right; simp) _⟩
              have HFIN := Lib.hid hfin
              clear hfin hf hf4 bx b0
              go_wp2
              go_roundw
              case rel => exact ⟨k + 1, by omega, by go_num, by rw [HST.out], by rw [HST.out], by rw [HST.out]; exact HFIN.out.1, HFIN.out.2⟩
              case measure => simp [intOf]; omega
            · rw [if_neg c2] at es
              rw [es] at bx HST HNEW
              clear es
              have hq : (sr + 1 == rise) = false := by simp [c2]
              clear c2 h9
              have hcb2 := HF3.out.cell HCK.out (by simp)
              have e0 := blk_cell bx 0 rfl
              have e1 := blk_cell bx 1 rfl
              have BX := Lib.hid bx; clear bx
              have B0' := Lib.hid b0; clear b0
              go_wp2_with fail
              refine (check_ok _ false (sr + 1) rise fall HNEW.out).mono ?_
              rintro e w' ⟨rfl, hf⟩
              have bx := hf.blk BX.out (by simp)
              have b0 := hf.blk B0'.out (by simp)
              have hf4 := HF3.out.trans hf (by simp)
              clear e0 e1 hcb2
              have e0 := blk_cell bx 0 rfl
              have e1 := blk_cell bx 1 rfl
              have e2 := blk_cell b0 0 rfl
              have e3 := blk_cell b0 1 rfl
              have e4 := blk_frozen b0 0
              have e5 := blk_frozen b0 1
              have hfin : ((w'.setCell ⟨w.heap.size, 0, none⟩ (.bool false)).setCell ⟨w.heap.size, 1, none⟩ (.int .i64 (sr + 1))).heap[w.heap.size]? = some (.cells #[.bool false, .int .i64 (sr + 1)] 42 (0, 0)) ∧ Fr [] w ((w'.setCell ⟨w.heap.size, 0, none⟩ (.bool false)).setCell ⟨w.heap.size, 1, none⟩ (.int .i64 (sr + 1))) := ⟨blk_set2 b0 _ _, (hf4.setCell (by right; simp) _).setCell (by right; simp) _⟩
              have HFIN := Lib.hid hfin
              clear hfin hf hf4 bx b0
              go_wp2
              go_roundw
              case rel => exact ⟨k + 1, by omega, by go_num, by rw [HST.out], by rw [HST.out], by rw [HST.out]; exact HFIN.out.1, HFIN.out.2⟩
              case measure => simp [intOf]; omega
          · have es : stp (true, sr) true rise fall = (true, 0) := by simp [stp]
            rw [es] at bx HST HNEW
            clear es
            have hq : ((0 : Int) == fall) = false := by simp; omega
            have hcb2 := HF3.out.cell HCK.out (by simp)
            have e0 := blk_cell bx 0 rfl
            have e1 := blk_cell bx 1 rfl
            have BX := Lib.hid bx; clear bx
            have B0' := Lib.hid b0; clear b0
            go_wp2_with fail
            refine (check_ok _ true 0 rise fall HNEW.out).mono ?_
            rintro e w' ⟨rfl, hf⟩
            have bx := hf.blk BX.out (by simp)
            have b0 := hf.blk B0'.out (by simp)
            have hf4 := HF3.out.trans hf (by simp)
            clear e0 e1 hcb2
            have e0 := blk_cell bx 0 rfl
            have e1 := blk_cell bx 1 rfl
            have e2 := blk_cell b0 0 rfl
            have e3 := blk_cell b0 1 rfl
            have e4 := blk_frozen b0 0
            have e5 := blk_frozen b0 1
            have hfin : ((w'.setCell ⟨w.heap.size, 0, none⟩ (.bool true)).setCell ⟨w.heap.size, 1, none⟩ (.int .i64 (0))).heap[w.heap.size]? = some (.cells #[.bool true, .int .i64 (0)] 42 (0, 0)) ∧ Fr [] w ((w'.setCell ⟨w.heap.size, 0, none⟩ (.bool true)).setCell ⟨w.heap.size, 1, none⟩ (.int .i64 (0))) := ⟨blk_set2 b0 _ _, (hf4.setCell (by right; simp) _).setCell (by right; simp) _⟩
            have HFIN := Lib.hid hfin
            clear hfin hf hf4 bx b0
            go_wp2
            go_roundw
            case rel => exact ⟨k + 1, by omega, by go_num, by rw [HST.out], by rw [HST.out], by rw [HST.out]; exact HFIN.out.1, HFIN.out.2⟩
            case measure => simp [intOf]; omega
      · obtain rfl : k = n := by omega
        have HOK2 := Lib.hid hok; clear hok
        have h10 := HOK.out.1
        have h11 := HOK.out.2.2.1
        have h12 := HOK.out.2.1
        have h13 := HOK.out.2.2.2.1
        have c0 := blk_cell b0 0 rfl
        have c1 := blk_cell b0 1 rfl
        have B0 := Lib.hid b0; clear b0
        have HF := Lib.hid hf; clear hf
        generalize stps (up, run) ok rise fall k = s at *
        obtain ⟨su, sr⟩ := s
        dsimp only at *
        by_cases hr60 : 60 < rise
        · go_wp2
          go_ret
          exact ⟨rfl, HF.out⟩
        by_cases hf60 : 60 < fall
        · go_wp2
          go_ret
          exact ⟨rfl, HF.out⟩
        obtain ⟨R, hR⟩ : ∃ R : Nat, rise = R := ⟨rise.toNat, by omega⟩
        obtain ⟨F, hF⟩ : ∃ F : Nat, fall = F := ⟨fall.toNat, by omega⟩
        subst hR
        subst hF
        by_cases hrf : R < F
        · skip
          have hmk := run_mk (P := Try.prog) 43 4 infoBool Try.underlying43 F (by omega) (by unfold maxLen; omega)
          have hrow0 : RowF (wr.alloc (.cells (madeCells #[.bool false] F) 4)) wr.heap.size 4 F F (fun _ => .bool false) := row_mk wr 4 (.bool false) rfl F (by unfold maxLen; omega)
          have hb0 := ((Fr.refl [] wr).alloc (.cells (madeCells #[.bool false] F) 4)).blk B0.out (by simp)
          have hs0 := lt_of_blk B0.out
          have a1 := fun ob => ((Fr.refl [] wr).alloc ob).cell c0 (by simp)
          have a2 := fun ob => ((Fr.refl [] wr).alloc ob).cell c1 (by simp)
          have HR := Lib.hid hrow0; clear hrow0
          have HB := Lib.hid hb0; clear hb0
          go_wp2_with fail
          refine (steps_any _ su sr _ _ _ F F (fun _ => false) HR.out.rd (by omega) HOK2.out).mono ?_
          rintro e w3 ⟨rfl, hf3⟩
          have hty := stps_turned (su, sr) false _ _ F HOK2.out (by omega) (by omega)
          generalize stps (su, sr) (fun _ => false) _ _ F = y at hty ⊢
          obtain ⟨yu, yr⟩ := y
          dsimp only at hty
          subst hty
          have hrow3 := HR.out.kept hf3 (by simp)
          have hb3 := hf3.blk HB.out (by simp)
          have hF3 := (HF.out.alloc (.cells (madeCells #[.bool false] F) 4)).trans hf3 (by simp)
          have hg3 : wr.heap.size < w3.heap.size := hrow3.lt
          have HR3 := Lib.hid (hrow3.alloc (.cells #[.bool false, .int .i64 yr] 42))
          have HB3 := Lib.hid (((Fr.refl [] w3).alloc (.cells #[.bool false, .int .i64 yr] 42)).blk hb3 (by simp))
          have HY3 := Lib.hid (heap_alloc_new w3 (.cells #[.bool false, .int .i64 yr] 42))
          have HF3 := Lib.hid (hF3.alloc (.cells #[.bool false, .int .i64 yr] 42))
          clear hrow3 hb3 hF3 hf3 a1 a2
          go_wp2
          have hsz4 : w3.heap.size < (w3.alloc (.cells #[.bool false, .int .i64 yr] 42)).heap.size := by simp
          generalize w3.alloc (.cells #[.bool false, .int .i64 yr] 42) = w4 at *
          have hgw : w.heap.size < wr.heap.size := hs0
          generalize wr.heap.size = gu at *
          go_loopw [19] (fun i wx => ∃ q : Nat, q ≤ F ∧ i = .int .i64 q ∧ RowF wx gu 4 F F (fun j => .bool (decide (j < q))) ∧ wx.heap[w.heap.size]? = some (.cells #[.bool su, .int .i64 sr] 42 (0, 0)) ∧
              wx.heap[w3.heap.size]? = some (.cells #[.bool false, .int .i64 yr] 42 (0, 0)) ∧ Fr [] w wx) (fun i _ => F - (intOf i).toNat)
          case atStart => exact ⟨0, by omega, rfl, HR3.out.congr (fun j hj => by simp), HB3.out, HY3.out, HF3.out⟩
          case round =>
            obtain ⟨q, hq, rfl, hrow, hb, hy, hf⟩ := hrel
            clear HR3 HB3 HY3 HF3
            by_cases hqN : q < F
            · have hcq := hrow.cell q hqN
              have hfq := hrow.frozen q
              have hrow2 := (hrow.stored q (.bool true)).congr (f' := fun j => .bool (decide (j < q + 1))) (fun j hj => by
                by_cases hjq : j = q
                · subst hjq; simp
                · simp only [if_neg hjq]; congr 2; simp; omega)
              have hfs : Fr [gu] wr (wr.setCell ⟨gu, q, none⟩ (.bool true)) := (Fr.refl _ _).setCell (by simp) _
              have hb2 := hfs.blk hb (by simp; omega)
              have hy2 := hfs.blk hy (by simp; omega)
              have hf2 := hf.trans hfs (by simp; omega)
              have H2 := Lib.hid hrow2
              have H3 := Lib.hid hb2
              have H4 := Lib.hid hy2
              have H5 := Lib.hid hf2
              clear hrow hrow2 hb hb2 hy hy2 hf hf2 hfs
              go_wp2
              go_roundw
              case rel => exact ⟨q + 1, by omega, by go_num, H2.out, H3.out, H4.out, H5.out⟩
              case measure => simp [intOf]; omega
            · obtain rfl : q = F := by omega
              have d0 := blk_cell hb 0 rfl
              have d1 := blk_cell hb 1 rfl
              have H2 := Lib.hid (hrow.rd.congr (f' := fun _ => .bool true) (fun j hj => by simp [hj]))
              have H4 := Lib.hid hy
              have H5 := Lib.hid hf
              clear hrow hb hy hf
              go_wp2_with fail
              refine (steps_any _ su sr _ _ _ q q (fun _ => true) H2.out (by omega) HOK2.out).mono ?_
              rintro e w5 ⟨rfl, hf5⟩
              have hty := stps_turned (su, sr) true _ _ q HOK2.out (by omega) (by omega)
              generalize stps (su, sr) (fun _ => true) _ _ q = z at hty ⊢
              obtain ⟨zu, zr⟩ := z
              dsimp only at hty
              subst hty
              have hy5 := hf5.blk H4.out (by simp)
              have hlt5 := lt_of_blk hy5
              have g0 := blk_cell hy5 0 rfl
              have g1 := fun ob => ((Fr.refl [] w5).alloc ob).cell g0 (by simp)
              have H6 := Lib.hid ((H5.out.trans hf5 (by simp)).alloc (.cells #[.bool true, .int .i64 zr] 42))
              clear hy5 hf5 d0 d1
              go_wp2
              go_ret
              exact ⟨rfl, H6.out⟩
        by_cases hrf2 : F < R
        · skip
          have hmk := run_mk (P := Try.prog) 43 4 infoBool Try.underlying43 R (by omega) (by unfold maxLen; omega)
          have hrow0 : RowF (wr.alloc (.cells (madeCells #[.bool false] R) 4)) wr.heap.size 4 R R (fun _ => .bool false) := row_mk wr 4 (.bool false) rfl R (by unfold maxLen; omega)
          have hb0 := ((Fr.refl [] wr).alloc (.cells (madeCells #[.bool false] R) 4)).blk B0.out (by simp)
          have hs0 := lt_of_blk B0.out
          have a1 := fun ob => ((Fr.refl [] wr).alloc ob).cell c0 (by simp)
          have a2 := fun ob => ((Fr.refl [] wr).alloc ob).cell c1 (by simp)
          have HR := Lib.hid hrow0; clear hrow0
          have HB := Lib.hid hb0; clear hb0
          go_wp2_with fail
          refine (steps_any _ su sr _ _ _ R R (fun _ => false) HR.out.rd (by omega) HOK2.out).mono ?_
          rintro e w3 ⟨rfl, hf3⟩
          have hty := stps_turned (su, sr) false _ _ R HOK2.out (by omega) (by omega)
          generalize stps (su, sr) (fun _ => false) _ _ R = y at hty ⊢
          obtain ⟨yu, yr⟩ := y
          dsimp only at hty
          subst hty
          have hrow3 := HR.out.kept hf3 (by simp)
          have hb3 := hf3.blk HB.out (by simp)
          have hF3 := (HF.out.alloc (.cells (madeCells #[.bool false] R) 4)).trans hf3 (by simp)
          have hg3 : wr.heap.size < w3.heap.size := hrow3.lt
          have HR3 := Lib.hid (hrow3.alloc (.cells #[.bool false, .int .i64 yr] 42))
          have HB3 := Lib.hid (((Fr.refl [] w3).alloc (.cells #[.bool false, .int .i64 yr] 42)).blk hb3 (by simp))
          have HY3 := Lib.hid (heap_alloc_new w3 (.cells #[.bool false, .int .i64 yr] 42))
          have HF3 := Lib.hid (hF3.alloc (.cells #[.bool false, .int .i64 yr] 42))
          clear hrow3 hb3 hF3 hf3 a1 a2
          go_wp2
          have hsz4 : w3.heap.size < (w3.alloc (.cells #[.bool false, .int .i64 yr] 42)).heap.size := by simp
          generalize w3.alloc (.cells #[.bool false, .int .i64 yr] 42) = w4 at *
          have hgw : w.heap.size < wr.heap.size := hs0
          generalize wr.heap.size = gu at *
          go_loopw [19] (fun i wx => ∃ q : Nat, q ≤ R ∧ i = .int .i64 q ∧ RowF wx gu 4 R R (fun j => .bool (decide (j < q))) ∧ wx.heap[w.heap.size]? = some (.cells #[.bool su, .int .i64 sr] 42 (0, 0)) ∧
              wx.heap[w3.heap.size]? = some (.cells #[.bool false, .int .i64 yr] 42 (0, 0)) ∧ Fr [] w wx) (fun i _ => R - (intOf i).toNat)
          case atStart => exact ⟨0, by omega, rfl, HR3.out.congr (fun j hj => by simp), HB3.out, HY3.out, HF3.out⟩
          case round =>
            obtain ⟨q, hq, rfl, hrow, hb, hy, hf⟩ := hrel
            clear HR3 HB3 HY3 HF3
            by_cases hqN : q < R
            · have hcq := hrow.cell q hqN
              have hfq := hrow.frozen q
              have hrow2 := (hrow.stored q (.bool true)).congr (f' := fun j => .bool (decide (j < q + 1))) (fun j hj => by
                by_cases hjq : j = q
                · subst hjq; simp
                · simp only [if_neg hjq]; congr 2; simp; omega)
              have hfs : Fr [gu] wr (wr.setCell ⟨gu, q, none⟩ (.bool true)) := (Fr.refl _ _).setCell (by simp) _
              have hb2 := hfs.blk hb (by simp; omega)
              have hy2 := hfs.blk hy (by simp; omega)
              have hf2 := hf.trans hfs (by simp; omega)
              have H2 := Lib.hid hrow2
              have H3 := Lib.hid hb2
              have H4 := Lib.hid hy2
              have H5 := Lib.hid hf2
              clear hrow hrow2 hb hb2 hy hy2 hf hf2 hfs
              go_wp2
              go_roundw
              case rel => exact ⟨q + 1, by omega, by go_num, H2.out, H3.out, H4.out, H5.out⟩
              case measure => simp [intOf]; omega
            · obtain rfl : q = R := by omega
              have d0 := blk_cell hb 0 rfl
              have d1 := blk_cell hb 1 rfl
              have H2 := Lib.hid (hrow.rd.congr (f' := fun _ => .bool true) (fun j hj => by simp [hj]))
              have H4 := Lib.hid hy
              have H5 := Lib.hid hf
              clear hrow hb hy hf
              go_wp2_with fail
              refine (steps_any _ su sr _ _ _ q q (fun _ => true) H2.out (by omega) HOK2.out).mono ?_
              rintro e w5 ⟨rfl, hf5⟩
              have hty := stps_turned (su, sr) true _ _ q HOK2.out (by omega) (by omega)
              generalize stps (su, sr) (fun _ => true) _ _ q = z at hty ⊢
              obtain ⟨zu, zr⟩ := z
              dsimp only at hty
              subst hty
              have hy5 := hf5.blk H4.out (by simp)
              have hlt5 := lt_of_blk hy5
              have g0 := blk_cell hy5 0 rfl
              have g1 := fun ob => ((Fr.refl [] w5).alloc ob).cell g0 (by simp)
              have H6 := Lib.hid ((H5.out.trans hf5 (by simp)).alloc (.cells #[.bool true, .int .i64 zr] 42))
              clear hy5 hf5 d0 d1
              go_wp2
              go_ret
              exact ⟨rfl, H6.out⟩
        · obtain rfl : R = F := by omega
          have hmk := run_mk (P := Try.prog) 43 4 infoBool Try.underlying43 R (by omega) (by unfold maxLen; omega)
          have hrow0 : RowF (wr.alloc (.cells (madeCells #[.bool false] R) 4)) wr.heap.size 4 R R (fun _ => .bool false) := row_mk wr 4 (.bool false) rfl R (by unfold maxLen; omega)
          have hb0 := ((Fr.refl [] wr).alloc (.cells (madeCells #[.bool false] R) 4)).blk B0.out (by simp)
          have hs0 := lt_of_blk B0.out
          have a1 := fun ob => ((Fr.refl [] wr).alloc ob).cell c0 (by simp)
          have a2 := fun ob => ((Fr.refl [] wr).alloc ob).cell c1 (by simp)
          have HR := Lib.hid hrow0; clear hrow0
          have HB := Lib.hid hb0; clear hb0
          go_wp2_with fail
          refine (steps_any _ su sr _ _ _ R R (fun _ => false) HR.out.rd (by omega) HOK2.out).mono ?_
          rintro e w3 ⟨rfl, hf3⟩
          have hty := stps_turned (su, sr) false _ _ R HOK2.out (by omega) (by omega)
          generalize stps (su, sr) (fun _ => false) _ _ R = y at hty ⊢
          obtain ⟨yu, yr⟩ := y
          dsimp only at hty
          subst hty
          have hrow3 := HR.out.kept hf3 (by simp)
          have hb3 := hf3.blk HB.out (by simp)
          have hF3 := (HF.out.alloc (.cells (madeCells #[.bool false] R) 4)).trans hf3 (by simp)
          have hg3 : wr.heap.size < w3.heap.size := hrow3.lt
          have HR3 := Lib.hid (hrow3.alloc (.cells #[.bool false, .int .i64 yr] 42))
          have HB3 := Lib.hid (((Fr.refl [] w3).alloc (.cells #[.bool false, .int .i64 yr] 42)).blk hb3 (by simp))
          have HY3 := Lib.hid (heap_alloc_new w3 (.cells #[.bool false, .int .i64 yr] 42))
          have HF3 := Lib.hid (hF3.alloc (.cells #[.bool false, .int .i64 yr] 42))
          clear hrow3 hb3 hF3 hf3 a1 a2
          go_wp2
          have hsz4 : w3.heap.size < (w3.alloc (.cells #[.bool false, .int .i64 yr] 42)).heap.size := by simp
          generalize w3.alloc (.cells #[.bool false, .int .i64 yr] 42) = w4 at *
          have hgw : w.heap.size < wr.heap.size := hs0
          generalize wr.heap.size = gu at *
          go_loopw [19] (fun i wx => ∃ q : Nat, q ≤ R ∧ i = .int .i64 q ∧ RowF wx gu 4 R R (fun j => .bool (decide (j < q))) ∧ wx.heap[w.heap.size]? = some (.cells #[.bool su, .int .i64 sr] 42 (0, 0)) ∧
              wx.heap[w3.heap.size]? = some (.cells #[.bool false, .int .i64 yr] 42 (0, 0)) ∧ Fr [] w wx) (fun i _ => R - (intOf i).toNat)
          case atStart => exact ⟨0, by omega, rfl, HR3.out.congr (fun j hj => by simp), HB3.out, HY3.out, HF3.out⟩
          case round =>
            obtain ⟨q, hq, rfl, hrow, hb, hy, hf⟩ := hrel
            clear HR3 HB3 HY3 HF3
            by_cases hqN : q < R
            · have hcq := hrow.cell q hqN
              have hfq := hrow.frozen q
              have hrow2 := (hrow.stored q (.bool true)).congr (f' := fun j => .bool (decide (j < q + 1))) (fun j hj => by
                by_cases hjq : j = q
                · subst hjq; simp
                · simp only [if_neg hjq]; congr 2; simp; omega)
              have hfs : Fr [gu] wr (wr.setCell ⟨gu, q, none⟩ (.bool true)) := (Fr.refl _ _).setCell (by simp) _
              have hb2 := hfs.blk hb (by simp; omega)
              have hy2 := hfs.blk hy (by simp; omega)
              have hf2 := hf.trans hfs (by simp; omega)
              have H2 := Lib.hid hrow2
              have H3 := Lib.hid hb2
              have H4 := Lib.hid hy2
              have H5 := Lib.hid hf2
              clear hrow hrow2 hb hb2 hy hy2 hf hf2 hfs
              go_wp2
              go_roundw
              case rel => exact ⟨q + 1, by omega, by go_num, H2.out, H3.out, H4.out, H5.out⟩
              case measure => simp [intOf]; omega
            · obtain rfl : q = R := by omega
              have d0 := blk_cell hb 0 rfl
              have d1 := blk_cell hb 1 rfl
              have H2 := Lib.hid (hrow.rd.congr (f' := fun _ => .bool true) (fun j hj => by simp [hj]))
              have H4 := Lib.hid hy
              have H5 := Lib.hid hf
              clear hrow hb hy hf
              go_wp2_with fail
              refine (steps_any _ su sr _ _ _ q q (fun _ => true) H2.out (by omega) HOK2.out).mono ?_
              rintro e w5 ⟨rfl, hf5⟩
              have hty := stps_turned (su, sr) true _ _ q HOK2.out (by omega) (by omega)
              generalize stps (su, sr) (fun _ => true) _ _ q = z at hty ⊢
              obtain ⟨zu, zr⟩ := z
              dsimp only at hty
              subst hty
              have hy5 := hf5.blk H4.out (by simp)
              have hlt5 := lt_of_blk hy5
              have g0 := blk_cell hy5 0 rfl
              have g1 := fun ob => ((Fr.refl [] w5).alloc ob).cell g0 (by simp)
              have H6 := Lib.hid ((H5.out.trans hf5 (by simp)).alloc (.cells #[.bool true, .int .i64 zr] 42))
              clear hy5 hf5 d0 d1
              go_wp2
              go_ret
              exact ⟨rfl, H6.out⟩
  · have HOK := Lib.hid hok; clear hok
    go_enter Try.func5, Try.ntmps5
    go_wp2_with fail
    refine (probed_any _).mono ?_
    rintro e w1 ⟨rfl, hf⟩
    have b0 : w1.heap[w.heap.size]? = some (.cells #[.bool up, .int .i64 run] 42 (0, 0)) := hf.blk (heap_alloc_new w _) (by simp)
    have HF := Lib.hid (((Fr.refl [] w).alloc _).trans hf (by simp)); clear hf
    have c0 := blk_cell b0 0 rfl
    have c1 := blk_cell b0 1 rfl
    clear b0
    go_wp2_with fail
    refine (check_bad _ up run rise fall HOK.out).mono ?_
    rintro e w2 ⟨rfl, hf⟩
    have HF2 := Lib.hid (HF.out.trans hf (by simp)); clear hf
    go_wp2
    go_ret
    exact ⟨rfl, HF2.out⟩

end Go.Proofs.Ytlinembnfcdmcaa
