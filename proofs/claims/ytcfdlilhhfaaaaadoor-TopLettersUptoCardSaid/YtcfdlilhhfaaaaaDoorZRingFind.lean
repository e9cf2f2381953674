/- slices.BinarySearchFunc at the ring's points. -/
import Derived.Test.YtcfdlilhhfaaaaaDoorZbase6
namespace Go.Proofs.YtcfdlilhhfaaaaaDoor
open Go.RowKit Go.Sort

theorem GR.fr {w w' : World} (h : GR w w') : Fr [] w w' := by
  obtain ⟨q, os, rfl⟩ := h
  refine ⟨rfl, rfl, rfl, by simp [grow, World.drewN], fun k hk _ => ?_⟩
  rw [heap_grow_old _ _ (by simpa [World.drewN] using hk)]
  rfl

theorem cmp_arg (W : World) (x1 x2 y1 y2 : Int) :
    Calls Tryd.prog 47 #[.agg #[.int .i64 x1, .int .i64 x2], .agg #[.int .i64 y1, .int .i64 y2]] W fun e w' => e = .returned (.int .i64 (cf2 (x1, x2) (y1, y2))) ∧ Fr [] W w' :=
  (compare_any W (x1, x2) (y1, y2)).mono fun _ _ ⟨h1, h2⟩ => ⟨h1, h2.fr⟩

/-- what the search tells -/
def FoundAt (w : World) (n : Nat) (q : Nat → Int × Int) (t : Int × Int) (e : Ending) (w' : World) : Prop :=
  ∃ (i : Nat) (b : Bool), e = .returned (.tuple #[.int .i64 i, .bool b]) ∧ i ≤ n ∧ (∀ j, j < i → cf2 (q j) t < 0) ∧ (∀ j, i ≤ j → j < n → ¬ cf2 (q j) t < 0) ∧ Fr [] w w'

set_option maxHeartbeats 4000000 in
set_option maxRecDepth 100000 in
theorem search_any (w : World) (a : Option Addr) (n c : Nat) (q : Nat → Int × Int) (t : Int × Int) (hv : RdP w (.slice a n c) n q) (hn : n ≤ 1000000000)
    (hm : ∀ j k, j ≤ k → k < n → cf2 (q k) t < 0 → cf2 (q j) t < 0) :
    Calls Tryd.prog 45 #[.slice a n c, .agg #[.int .i64 t.1, .int .i64 t.2], .func (.func 47) #[] #[]] w (FoundAt w n q t) := by
  obtain ⟨t1, t2⟩ := t
  simp only []
  have HV := Lib.hid hv; clear hv
  have HM := Lib.hid hm; clear hm
  have hb := heap_alloc_new w (.cells #[.int .i64 t1, .int .i64 t2] 110)
  have HB := Lib.hid hb; clear hb
  have HF := Lib.hid ((Fr.refl [] w).alloc (.cells #[.int .i64 t1, .int .i64 t2] 110))
  go_enter Tryd.func45, Tryd.ntmps45
  go_wp2
  generalize w.alloc (.cells #[.int .i64 t1, .int .i64 t2] 110) = w1 at *
  go_loopw [9, 10] (fun vi vj wr => ∃ i j : Nat, vi = .int .i64 i ∧ vj = .int .i64 j ∧ i ≤ j ∧ j ≤ n ∧ (∀ x, x < i → cf2 (q x) (t1, t2) < 0) ∧ (∀ x, j ≤ x → x < n → ¬ cf2 (q x) (t1, t2) < 0) ∧ wr.heap[w.heap.size]? = some (.cells #[.int .i64 t1, .int .i64 t2] 110 (0, 0)) ∧ Fr [] w wr) (fun vi vj _ => (intOf vj).toNat - (intOf vi).toNat)
  case atStart => exact ⟨0, n, rfl, rfl, by omega, by omega, fun x hx => by omega, fun x h1 h2 => by omega, HB.out, HF.out⟩
  case round =>
    clear HB HF
    obtain ⟨i, j, rfl, rfl, hij, hjn, hlo, hhi, hbt, hf⟩ := hrel
    have HLO := Lib.hid hlo; clear hlo
    have HHI := Lib.hid hhi; clear hhi
    have HB := Lib.hid hbt
    have HF := Lib.hid hf; clear hf
    have g0 := blk_cell (v := .int .i64 t1) hbt 0 rfl
    have g1 := blk_cell (v := .int .i64 t2) hbt 1 rfl
    clear hbt
    by_cases hlt : i < j
    · obtain ⟨b, o, cap', he, hnc, hcm, hbw, hc⟩ := HV.out.shape (by omega)
      simp only [Value.slice.injEq, true_and] at he
      obtain ⟨rfl, rfl⟩ := he
      obtain ⟨h, hh, hih, hhj⟩ : ∃ h : Nat, ((i : Int) + (j : Int)) / 2 = (h : Int) ∧ i ≤ h ∧ h < j := ⟨(i + j) / 2, by omega, by omega, by omega⟩
      have hhn : h < n := by omega
      have hz0 : (0 : Int) ≤ (h : Int) := by omega
      have hz1 : (h : Int) < (n : Int) := by omega
      obtain ⟨k0, k1⟩ := hc h hhn
      have c0 := HF.out.cell k0 (by simp)
      have c1 := HF.out.cell k1 (by simp)
      clear hc k0 k1
      go_upto_region 5 with fail
      clear hh
      by_cases hcmp : cf2 (q h) (t1, t2) < 0
      · go_cut [31] (fun v wy => v = .bool true ∧ Fr [] wr wy)
        case first =>
          have HC := Lib.hid hcmp
          have HCMP := Lib.hid (show decide (cf2 ((q h).1, (q h).2) (t1, t2) < 0) = true by simpa using hcmp)
          clear hcmp
          go_region_with (go_at_call 47; refine (cmp_arg _ _ _ _ _).mono ?_; rintro e w' ⟨rfl, hf5⟩)
          all_goals (go_wp2_with fail; go_meet)
          all_goals exact ⟨by rw [HCMP.out], ((Fr.refl [] wr).drew).trans hf5 (by simp)⟩
        case rest =>
          obtain ⟨rfl, hfc⟩ := hcut
          have HFC := Lib.hid (HF.out.trans hfc (by simp))
          have HB2 := Lib.hid (hfc.blk HB.out (by simp))
          have HC := Lib.hid hcmp
          clear hcmp hfc
          go_wp2
          go_roundw
          case rel => exact ⟨h + 1, j, by go_num, rfl, by omega, hjn, fun x hx => HM.out x h (by omega) hhn HC.out, HHI.out, HB2.out, HFC.out⟩
          case measure => simp [intOf]; omega
      · go_cut [31] (fun v wy => v = .bool false ∧ Fr [] wr wy)
        case first =>
          have HC := Lib.hid hcmp
          have HCMP := Lib.hid (show decide (cf2 ((q h).1, (q h).2) (t1, t2) < 0) = false by simpa using hcmp)
          clear hcmp
          go_region_with (go_at_call 47; refine (cmp_arg _ _ _ _ _).mono ?_; rintro e w' ⟨rfl, hf5⟩)
          all_goals (go_wp2_with fail; go_meet)
          all_goals exact ⟨by rw [HCMP.out], ((Fr.refl [] wr).drew).trans hf5 (by simp)⟩
        case rest =>
          obtain ⟨rfl, hfc⟩ := hcut
          have HFC := Lib.hid (HF.out.trans hfc (by simp))
          have HB2 := Lib.hid (hfc.blk HB.out (by simp))
          have HC := Lib.hid hcmp
          clear hcmp hfc
          go_wp2
          go_roundw
          case rel => exact ⟨i, h, rfl, rfl, by omega, by omega, HLO.out, fun x hx hxn hx2 => HC.out (HM.out h x hx hxn hx2), HB2.out, HFC.out⟩
          case measure => simp [intOf]; omega
    · obtain rfl : i = j := by omega
      by_cases hin : i < n
      · obtain ⟨b, o, cap', he, hnc, hcm, hbw, hc⟩ := HV.out.shape (by omega)
        simp only [Value.slice.injEq, true_and] at he
        obtain ⟨rfl, rfl⟩ := he
        obtain ⟨k0, k1⟩ := hc i hin
        have c0 := HF.out.cell k0 (by simp)
        have c1 := HF.out.cell k1 (by simp)
        clear hc k0 k1
        have hz0 : (0 : Int) ≤ (i : Int) := by omega
        have hz1 : (i : Int) < (n : Int) := by omega
        have hd : decide (i < n) = true := by simpa using hin
        go_upto_region 8 with fail
        go_cut [6, 7] (fun v6 v7 wy => v6 = .int .i64 i ∧ (∃ bb : Bool, v7 = .bool bb) ∧ Fr [] wr wy)
        case first =>
          go_region_held3 (fun w' => w'.cell? ⟨b, o + i * 2, none⟩ = some (.int .i64 (q i).1) ∧ w'.cell? ⟨b, o + i * 2 + 1, none⟩ = some (.int .i64 (q i).2) ∧ w'.cell? ⟨w.heap.size, 0, none⟩ = some (.int .i64 t1) ∧ w'.cell? ⟨w.heap.size, 1, none⟩ = some (.int .i64 t2))
            (first | exact ⟨c0, c1, g0, g1⟩ | exact ⟨hf5.cell c0 (by simp), hf5.cell c1 (by simp), hf5.cell g0 (by simp), hf5.cell g1 (by simp)⟩)
            (first | (go_at_call 47; refine (cmp_arg _ _ _ _ _).mono ?_; rintro e w' ⟨rfl, hf5⟩))
          all_goals (go_wp2_with fail; go_meet)
          all_goals exact ⟨rfl, ⟨_, rfl⟩, ((Fr.refl [] wr).drew).trans hf5 (by simp)⟩
        case rest =>
          obtain ⟨rfl, ⟨bb, rfl⟩, hfc⟩ := hcut
          have HFC := Lib.hid (HF.out.trans hfc (by simp))
          clear hfc
          go_wp2
          go_ret2
          exact ⟨i, bb, rfl, hjn, HLO.out, fun j h1 h2 => by have := HHI.out j h1 h2; omega, HFC.out⟩
      · have hd : decide (i < n) = false := by simpa using hin
        have hz1 : decide ((i : Int) < (n : Int)) = false := by simpa using hin
        go_upto_region 8 with fail
        go_cut [6, 7] (fun v6 v7 wy => v6 = .int .i64 i ∧ (∃ bb : Bool, v7 = .bool bb) ∧ Fr [] wr wy)
        case first =>
          go_quiet (fail)
          all_goals (go_wp2_with fail; go_meet)
          all_goals exact ⟨rfl, ⟨_, rfl⟩, (Fr.refl [] wr).drewN _⟩
        case rest =>
          obtain ⟨rfl, ⟨bb, rfl⟩, hfc⟩ := hcut
          have HFC := Lib.hid (HF.out.trans hfc (by simp))
          clear hfc
          go_wp2
          go_ret2
          exact ⟨i, bb, rfl, hjn, HLO.out, fun j h1 h2 => by have := HHI.out j h1 h2; omega, HFC.out⟩

end Go.Proofs.YtcfdlilhhfaaaaaDoor
