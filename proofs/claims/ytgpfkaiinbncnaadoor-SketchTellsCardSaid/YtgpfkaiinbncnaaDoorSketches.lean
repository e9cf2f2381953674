/- the law's 'sketches', for two that are alike. -/
import Derived.Test.YtgpfkaiinbncnaaDoorSketchX
import Derived.Test.YtgpfkaiinbncnaaDoorInts
namespace Go.Proofs.YtgpfkaiinbncnaaDoor
open Go.RowKit

set_option maxHeartbeats 4000000 in
set_option maxRecDepth 100000 in
theorem sketches_same (w : World) (ra rb : Value) (d wd : Nat) (F G : Nat → Nat → Int) (ha : SkF w ra d wd F) (hb : SkF w rb d wd G) (he : ∀ i, i < d → ∀ j, j < wd → F i j = G i j) (hd : d ≤ 1000000) (hw : wd ≤ 1000000) :
    Calls Tryd.prog 10 #[.agg #[.int .i64 wd, ra], .agg #[.int .i64 wd, rb]] w fun e w' => e = .returned (.bool true) ∧ Fr [] w w' := by
  obtain ⟨R, h1, h2⟩ := ha
  obtain ⟨T, h3, h4⟩ := hb
  obtain ⟨aa, ca, rfl⟩ := h1.slice
  obtain ⟨ab, cb, rfl⟩ := h3.slice
  have H1 := Lib.hid h1
  have H2 := Lib.hid h2
  have H3 := Lib.hid h3
  have H4 := Lib.hid h4
  have HE := Lib.hid he
  clear h1 h2 h3 h4 he
  have q0 := heap_alloc_new w (.cells #[.int .i64 wd, .slice aa d ca] 24)
  have q1 := heap_alloc_new (w.alloc (.cells #[.int .i64 wd, .slice aa d ca] 24)) (.cells #[.int .i64 wd, .slice ab d cb] 24)
  have f1 := (Fr.refl [] (w.alloc (.cells #[.int .i64 wd, .slice aa d ca] 24))).alloc (.cells #[.int .i64 wd, .slice ab d cb] 24)
  have HF2 := Lib.hid (((Fr.refl [] w).alloc (.cells #[.int .i64 wd, .slice aa d ca] 24)).trans f1 (by simp))
  have q0' := f1.blk q0 (by simp)
  simp only [World.size_alloc] at q1
  have HQ0 := Lib.hid q0'
  have HQ1 := Lib.hid q1
  have c0 := blk_cell q0' 0 rfl
  have c1 := blk_cell q0' 1 rfl
  have c2 := blk_cell q1 0 rfl
  have c3 := blk_cell q1 1 rfl
  have hww : ((wd : Int) != (wd : Int)) = false := by simp
  have hdd : ((d : Int) != (d : Int)) = false := by simp
  clear q0 q1 f1 q0'
  go_enter Tryd.func10, Tryd.ntmps10
  go_wp2
  generalize (w.alloc (.cells #[.int .i64 wd, .slice aa d ca] 24)).alloc (.cells #[.int .i64 wd, .slice ab d cb] 24) = w2 at *
  clear c0 c1 c2 c3
  go_loopw [5, 6] (fun i _ wr => ∃ k : Nat, k ≤ d ∧ i = .int .i64 k ∧ Fr [] w2 wr) (fun i _ _ => d - (intOf i).toNat)
  case atStart => exact ⟨0, by omega, rfl, Fr.refl _ _⟩
  case round =>
    obtain ⟨k, hk, rfl, hf⟩ := hrel
    have HF := Lib.hid hf
    have q0 := hf.blk HQ0.out (by simp)
    have q1 := hf.blk HQ1.out (by simp)
    have c0 := blk_cell q0 0 rfl
    have c1 := blk_cell q0 1 rfl
    have c2 := blk_cell q1 0 rfl
    have c3 := blk_cell q1 1 rfl
    clear q0 q1 hf
    by_cases hlt : k < d
    · obtain ⟨b, o, cm, hq, _, _, _, hc⟩ := H1.out.shape (by omega)
      simp only [Value.slice.injEq, true_and] at hq
      obtain ⟨rfl, rfl⟩ := hq
      obtain ⟨b2, o2, cm2, hq, _, _, _, hc2⟩ := H3.out.shape (by omega)
      simp only [Value.slice.injEq, true_and] at hq
      obtain ⟨rfl, rfl⟩ := hq
      have hfw := HF2.out.trans HF.out (by simp)
      have k1 := hfw.cell (hc k hlt) (by simp)
      have k2 := hfw.cell (hc2 k hlt) (by simp)
      obtain ⟨ta, tc, ht⟩ := (H2.out k hlt).slice
      obtain ⟨ua, uc, hu⟩ := (H4.out k hlt).slice
      rw [ht] at k1
      rw [hu] at k2
      have k0 : (0 : Int) ≤ (k : Int) := by omega
      have k3 : (k : Int) < (d : Int) := by omega
      have HBY := Lib.hid (fun u : Nat => by
        have r1 := (H2.out k hlt).fr (hfw.drewN u) (by simp)
        have r2 := (H4.out k hlt).fr (hfw.drewN u) (by simp)
        rw [ht] at r1
        rw [hu] at r2
        refine (ints_any (wr.drewN u) _ _ _ _ _ _ (F k) (G k) r1 r2 (by omega) (by omega)).mono ?_
        rintro e w' ⟨rfl, hq⟩
        exact ⟨by rw [(eqUpTo_iff _ _ _).2 (fun j hj => HE.out k hlt j hj)]; simp, hq⟩ :
        ∀ u : Nat, Calls Tryd.prog 24 #[.slice ta wd tc, .slice ua wd uc] (wr.drewN u) fun e w' => e = .returned (.bool true) ∧ ∃ q, w' = (wr.drewN u).drewN q)
      clear hc hc2 ht hu hfw
      go_wp2_with fail
      go_quiet ((go_at_call 24; exact Calls.quiet_of (HBY.out _)))
      go_wp2
      go_roundw
      case rel => exact ⟨k + 1, by omega, by go_num, HF.out.drewN _⟩
      case measure => simp [intOf]; omega
    · obtain rfl : k = d := by omega
      go_wp2
      go_ret
      exact ⟨rfl, HF2.out.trans HF.out (by simp)⟩

end Go.Proofs.YtgpfkaiinbncnaaDoor
