/- sketch.Count: what it does to a sketch without a fault. -/
import Derived.Test.YtgpfkaiinbncnaaDoorSketch0
import Derived.BigQuiet
import Derived.IntWalk
namespace Go.Proofs.YtgpfkaiinbncnaaDoor
open Go.RowKit

set_option maxHeartbeats 2000000 in
set_option maxRecDepth 100000 in
theorem sketch_count (w : World) (rv : Value) (d wd n : Nat) (F : Nat → Nat → Int) (a : Option Addr) (c : Nat) (sp : Nat → Nat) (hs : SkF w rv d wd F) (hok : SkOk d wd F)
    (hsl : ∀ i, i < d → sp i < wd)
    (hpl : ∀ w1, Fr [] w w1 → ∀ i, i < d → Calls Tryd.prog 47 #[.agg #[.int .i64 wd, rv], .int .i64 i, .slice a n c] w1 fun e w' => e = .returned (.int .i64 (sp i)) ∧ Fr [] w1 w') :
    Calls Tryd.prog 16 #[.agg #[.int .i64 wd, rv], .slice a n c] w fun e w' => e = .returned (.tuple #[.int .i64 (lea (fun i => F i (sp i)) d), .nilIface]) ∧ Fr [] w w' := by
  have HCK := Lib.hid (fun (w1 : World) (h : Fr [] w w1) => sketch_check w1 rv d wd F (hs.fr h) hok)
  obtain ⟨R, hr, hR⟩ := hs
  obtain ⟨b, o, cc, rfl, _, _, _, hc⟩ := hr.shape (by have := hok.deep; omega)
  have hd := hok.deep
  have hw := hok.wide
  have HC := Lib.hid hc
  have HRR := Lib.hid hR
  have HSL := Lib.hid hsl
  have HPL := Lib.hid hpl
  clear hc hR hr hok hsl hpl
  have HF0 := Lib.hid ((Fr.refl [] w).alloc (.cells #[.int .i64 wd, .slice (some ⟨b, o, none⟩) d cc] 24))
  have hb0 := heap_alloc_new w (.cells #[.int .i64 wd, .slice (some ⟨b, o, none⟩) d cc] 24)
  have HB0 := Lib.hid hb0
  have c0 : (w.alloc (.cells #[.int .i64 wd, .slice (some ⟨b, o, none⟩) d cc] 24)).cell? ⟨w.heap.size, 0, none⟩ = some (.int .i64 wd) := blk_cell hb0 0 rfl
  have c1 : (w.alloc (.cells #[.int .i64 wd, .slice (some ⟨b, o, none⟩) d cc] 24)).cell? ⟨w.heap.size, 1, none⟩ = some (.slice (some ⟨b, o, none⟩) d cc) := blk_cell hb0 1 rfl
  clear hb0
  go_enter Tryd.func16, Tryd.ntmps16
  go_wp2_with fail
  generalize w.alloc (.cells #[.int .i64 wd, .slice (some ⟨b, o, none⟩) d cc] 24) = w1 at *
  refine (HCK.out _ HF0.out).mono ?_
  rintro e w2 ⟨rfl, hf2⟩
  have HF2 := Lib.hid (HF0.out.trans hf2 (by simp))
  have c2 := hf2.cell c0 (by simp)
  have c3 := hf2.cell c1 (by simp)
  clear hf2 c0 c1
  generalize w.heap.size = p at *
  have HC2 := Lib.hid c2
  have HC3 := Lib.hid c3
  go_wp2
  clear c2 c3
  go_loopw [7, 8, 9, 18] (fun ls _ _ i wr => ∃ k : Nat, k ≤ d ∧ i = .int .i64 k ∧ ls = .int .i64 (lea (fun i => F i (sp i)) k) ∧ Fr [] w2 wr) (fun _ _ _ i _ => d - (intOf i).toNat)
  case atStart => exact ⟨0, by omega, rfl, rfl, Fr.refl _ _⟩
  case round =>
    obtain ⟨k, hkd, rfl, rfl, hf⟩ := hrel
    have HF := Lib.hid (HF2.out.trans hf (by simp))
    have x0 : wr.cell? ⟨p, 0, none⟩ = some (.int .i64 wd) := hf.cell HC2.out (by simp)
    have x1 : wr.cell? ⟨p, 1, none⟩ = some (.slice (some ⟨b, o, none⟩) d cc) := hf.cell HC3.out (by simp)
    have HFW := Lib.hid hf
    clear hf
    by_cases hlt : k < d
    · have hrow := HRR.out k hlt
      obtain ⟨b2, o2, c2, he2, _, _, _, hc2⟩ := hrow.shape (by omega)
      have k1 := HF.out.cell (HC.out k hlt) (by simp)
      rw [he2] at k1
      clear he2 hrow
      have hsl := HSL.out k hlt
      have k2 := HF.out.cell (hc2 _ hsl) (by simp)
      have hsuc : lea (fun i => F i (sp i)) (k + 1) = min (lea (fun i => F i (sp i)) k) (F k (sp k)) := rfl
      have HSU := Lib.hid hsuc
      have HPK := Lib.hid (HPL.out wr HF.out k hlt)
      clear hc2 hsuc
      generalize lea (fun i => F i (sp i)) k = lo at *
      generalize hfv : F k (sp k) = fv at *
      generalize sp k = sk at *
      clear hfv
      have k0 : (0 : Int) ≤ (k : Int) := by omega
      have k3 : (k : Int) < (d : Int) := by omega
      have s0 : (0 : Int) ≤ (sk : Int) := by omega
      have s3 : (sk : Int) < (wd : Int) := by omega
      go_wp2_with fail
      refine HPK.out.mono ?_
      rintro e w5 ⟨rfl, hf5⟩
      have z2 := hf5.cell k2 (by simp)
      have HF9 := Lib.hid (HFW.out.trans hf5 (by simp))
      clear x0 x1 k1 k2 hf5
      by_cases hlf : lo ≤ fv
      · go_wp2
        go_roundw
        case rel => exact ⟨k + 1, by omega, by go_num, by rw [HSU.out, show min lo fv = lo by omega], HF9.out⟩
        case measure => simp [intOf]; omega
      · go_wp2
        go_roundw
        case rel => exact ⟨k + 1, by omega, by go_num, by rw [HSU.out, show min lo fv = fv by omega], HF9.out⟩
        case measure => simp [intOf]; omega
    · obtain rfl : k = d := by omega
      go_wp2
      go_ret2
      exact ⟨rfl, HF.out⟩

end Go.Proofs.YtgpfkaiinbncnaaDoor
