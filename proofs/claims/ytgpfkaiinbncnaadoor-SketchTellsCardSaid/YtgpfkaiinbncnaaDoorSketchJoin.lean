/- sketch.Join. -/
import Derived.Test.YtgpfkaiinbncnaaDoorSketchX
import Derived.IntWalk
namespace Go.Proofs.YtgpfkaiinbncnaaDoor
open Go.RowKit

set_option maxHeartbeats 4000000 in
set_option maxRecDepth 100000 in
theorem join1_any (w0 w : World) (bb g i : Nat) (rv : Value) (wd d cr : Nat) (f : Nat → Int) (G : Nat → Nat → Int) (hbb : w.heap[bb]? = some (.cells #[.int .i64 wd, rv] 24 (0, 0)))
    (hs : SkF w0 rv d wd G) (h0 : Fr [] w0 w) (hg : w0.heap.size ≤ g) (hi : i < d) (hr : RowI w g wd cr f) (hbd : ∀ j, j < wd → (0 ≤ f j ∧ f j ≤ 1125899906842624) ∧ (0 ≤ G i j ∧ G i j ≤ 1125899906842624)) (hw : 1 ≤ wd ∧ wd ≤ 1000) :
    Calls Tryd.prog 48 #[.int .i64 i, .slice (some ⟨g, 0, none⟩) wd cr, .pointer (some ⟨bb, 0, none⟩)] w fun e w' =>
      e = .returned (.tuple #[]) ∧ RowI w' g wd cr (fun j => f j + G i j) ∧ Fr [g] w w' := by
  have HBD := Lib.hid hbd
  obtain ⟨R, h1, h2⟩ := hs
  obtain ⟨b, o, c, rfl, hnc, hcm, _, hc⟩ := h1.shape (by omega)
  have c0 : w.cell? ⟨bb, 1, none⟩ = some (.slice (some ⟨b, o, none⟩) d c) := blk_cell hbb 1 rfl
  have c1 := h0.cell (hc i hi) (by simp)
  obtain ⟨b2, o2, cc2, he2, _, _, hb2, hc2⟩ := (h2 i hi).shape (by omega)
  rw [he2] at c1
  have HROW := Lib.hid (fun (w' : World) (h : Fr [g] w w') j (hj : j < wd) => ((h0.mono (S' := [g]) (by simp)).trans h (fun _ hx => .inl hx)).cell (hc2 j hj) (by simp; omega))
  have HR := Lib.hid hr
  have k0 : (0 : Int) ≤ (i : Int) := by omega
  have k1 : (i : Int) < (d : Int) := by omega
  clear hbd h1 h2 hc hc2 he2 hr hbb
  go_enter Tryd.func48, Tryd.ntmps48
  go_wp2
  go_loopw [5, 6, 13] (fun _ _ x wr => ∃ k : Nat, k ≤ wd ∧ x = .int .i64 k ∧ RowI wr g wd cr (fun j => if j < k then f j + G i j else f j) ∧ Fr [g] w wr) (fun _ _ x _ => wd - (intOf x).toNat)
  case atStart => exact ⟨0, by omega, rfl, HR.out.congr (fun j _ => by simp), Fr.refl _ _⟩
  case round =>
    obtain ⟨k, hk, rfl, hrow, hf⟩ := hrel
    by_cases hlt : k < wd
    · have y0 := HROW.out wr hf k hlt
      have y1 := hrow.cell k hlt
      have y2 := hrow.frozen k
      simp only [Nat.lt_irrefl, if_false] at y1
      have hb := HBD.out k hlt
      have HRW := Lib.hid hrow
      have HF := Lib.hid hf
      clear hrow hf
      have k2 : (0 : Int) ≤ (k : Int) := by omega
      have k3 : (k : Int) < (wd : Int) := by omega
      have hsum : IntKind.i64.wrap (f k + G i k) = f k + G i k := IntWalk.i64_in _ (by omega)
      go_wp2
      go_roundw
      case rel => exact ⟨k + 1, by omega, by go_num, (HRW.out.stored k _).congr (fun j hj => by
        by_cases h : j = k
        · subst h; simp
        · by_cases h2 : j < k
          · simp [h, h2, show j < k + 1 by omega]
          · simp [h, h2, show ¬ j < k + 1 by omega]), HF.out.setCell (by simp) _⟩
      case measure => simp [intOf]; omega
    · obtain rfl : k = wd := by omega
      have HRW := Lib.hid (hrow.congr (f' := fun j => .int .i64 (f j + G i j)) (fun j hj => by simp [hj]))
      clear hrow
      go_wp2
      go_end0
      exact ⟨rfl, HRW.out, hf⟩

set_option maxHeartbeats 4000000 in
set_option maxRecDepth 100000 in
theorem mapped_join (w : World) (rv rvb : Value) (d wd : Nat) (F G : Nat → Nat → Int) (bb : Nat) (hs : SkF w rv d wd F) (hok : SkOk d wd F)
    (hbb : w.heap[bb]? = some (.cells #[.int .i64 wd, rvb] 24 (0, 0))) (hsb : SkF w rvb d wd G) (hG : ∀ i, i < d → ∀ j, j < wd → 0 ≤ G i j ∧ G i j ≤ 1125899906842624)
    (hmx : ∀ i, i < d → ∀ j, j < wd → F i j + G i j ≤ 1125899906842624) :
    Calls Tryd.prog 45 #[.agg #[.int .i64 wd, rv], .func (.func 48) #[] #[.pointer (some ⟨bb, 0, none⟩)]] w fun e w' =>
      ∃ rv', e = .returned (.tuple #[.agg #[.int .i64 wd, rv'], .nilIface]) ∧ SkO w' w.heap.size rv' d wd (fun i j => F i j + G i j) ∧ Fr [] w w' := by
  have HADD := Lib.hid (fun (w1 : World) (h1 : Fr [] w w1) (k g cr : Nat) (hk : k < d) (hr : RowI w1 g wd cr (F k)) (hg : w.heap.size ≤ g) =>
    join1_any w w1 bb g k rvb wd d cr (F k) G (h1.blk hbb (by simp)) hsb h1 hg hk hr (fun j hj => ⟨(hok.all k hk j hj), (hG k hk j hj)⟩) hok.wide)
  obtain ⟨R, hr, hR⟩ := hs
  obtain ⟨b, o, cc, rfl, _, _, _, hc⟩ := hr.shape (by have := hok.deep; omega)
  have hd := hok.deep
  have hw := hok.wide
  have HC := Lib.hid hc
  have HRR := Lib.hid hR
  have HBD := Lib.hid (show ∀ i, i < d → ∀ j, j < wd → 0 ≤ F i j + G i j ∧ F i j + G i j ≤ 1125899906842624 from fun i hi j hj => by
    have h1 := hok.all i hi j hj
    have h2 := hG i hi j hj
    have h3 := hmx i hi j hj
    omega)
  clear hc hR hr hok hmx hbb hsb hG
  go_enter Tryd.func45, Tryd.ntmps45
  have hb0 := heap_alloc_new w (.cells #[.int .i64 wd, .slice (some ⟨b, o, none⟩) d cc] 24)
  have hb1 := heap_alloc_new (w.alloc (.cells #[.int .i64 wd, .slice (some ⟨b, o, none⟩) d cc] 24)) (.cells #[.int .i64 0, .slice none 0 0] 24)
  have hb2 := heap_alloc_new ((w.alloc (.cells #[.int .i64 wd, .slice (some ⟨b, o, none⟩) d cc] 24)).alloc (.cells #[.int .i64 0, .slice none 0 0] 24)) (.cells #[.int .i64 wd, .slice none 0 0] 24)
  have hq1 := ((Fr.refl [] _).alloc (.cells #[.int .i64 wd, .slice none 0 0] 24)).blk hb1 (by simp)
  simp only [World.size_alloc] at hb1 hb2 hq1
  have HQ1 := Lib.hid hq1
  have HQ2 := Lib.hid hb2
  have HF3 := Lib.hid ((((Fr.refl [] w).alloc (.cells #[.int .i64 wd, .slice (some ⟨b, o, none⟩) d cc] 24)).alloc (.cells #[.int .i64 0, .slice none 0 0] 24)).alloc (.cells #[.int .i64 wd, .slice none 0 0] 24))
  clear hb0 hb1 hb2 hq1
  go_wp2
  generalize ((w.alloc (.cells #[.int .i64 wd, .slice (some ⟨b, o, none⟩) d cc] 24)).alloc (.cells #[.int .i64 0, .slice none 0 0] 24)).alloc (.cells #[.int .i64 wd, .slice none 0 0] 24) = w3 at *
  have hpq : w.heap.size ≤ w.heap.size + 1 ∧ w.heap.size ≤ w.heap.size + 1 + 1 ∧ w.heap.size + 1 ≠ w.heap.size + 1 + 1 := by omega
  obtain ⟨r, hr⟩ : ∃ r, r = w.heap.size + 1 := ⟨_, rfl⟩
  obtain ⟨p, hp⟩ : ∃ p, p = w.heap.size + 1 + 1 := ⟨_, rfl⟩
  rw [← hp, ← hr] at hpq
  rw [← hr] at HQ1
  rw [← hp] at HQ2
  rw [← hp, ← hr]
  clear hp hr
  go_loopw [7, 8, 9, 16] (fun _ _ _ i wr => ∃ (k : Nat) (v : Value) (rg rc : Nat → Nat), k ≤ d ∧ i = .int .i64 k ∧ wr.heap[r]? = some (.cells #[.int .i64 0, .slice none 0 0] 24 (0, 0)) ∧ SkB wr w.heap.size p v k wd rg rc (fun i j => F i j + G i j) ∧ Fr [] w wr) (fun _ _ _ i _ => d - (intOf i).toNat)
  case atStart => exact ⟨0, .slice none 0 0, fun _ => 0, fun _ => 0, by omega, rfl, HQ1.out, ⟨HQ2.out, OwnF.nil _ _ _ _, fun i hi => by omega, by omega⟩, HF3.out⟩
  case round =>
    clear HQ1 HQ2 HF3
    obtain ⟨k, v, rg, rc, hk, rfl, hR, hB, hf⟩ := hrel
    have hsz := hf.size
    have HF := Lib.hid hf; clear hf
    have HB := Lib.hid hB
    have HR := Lib.hid hR; clear hR
    by_cases hlt : k < d
    · have hrow := HRR.out k hlt
      obtain ⟨b2, o2, c2, he2, _, _, _, _⟩ := hrow.shape (by omega)
      have k1 := HF.out.cell (HC.out k hlt) (by simp)
      rw [he2] at k1 hrow
      have HROW := Lib.hid (hrow.fr HF.out (by simp))
      have HAK := Lib.hid (fun w1 h1 g cr hr hg => HADD.out w1 h1 k g cr hlt hr hg)
      have HBK := Lib.hid (HBD.out k hlt)
      clear hrow he2 hB
      have k0 : (0 : Int) ≤ (k : Int) := by omega
      have k3 : (k : Int) < (d : Int) := by omega
      go_wp2_with fail
      refine (clone_pos wr _ wd (F k) HROW.out (by omega) (by omega)).mono ?_
      rintro e w5 ⟨g, cap, rfl, hg, hr5, hf5⟩
      have HR5 := Lib.hid hr5
      have HF5 := Lib.hid (HF.out.trans hf5 (by simp))
      have HW5 := Lib.hid hf5
      clear hr5 hf5 k1
      go_wp2_with fail
      refine (HAK.out w5 HF5.out g cap HR5.out (by omega)).mono ?_
      rintro e w6 ⟨rfl, hr6, hf6⟩
      have HR6 := Lib.hid hr6
      have HW6 := Lib.hid (HW5.out.trans hf6 (fun y hy => .inr (by simp at hy; omega)) : Fr [] wr w6)
      clear hr6 hf6
      obtain ⟨Gk, hGk⟩ : ∃ Gk : Nat → Int, Gk = fun j => F k j + G k j := ⟨_, rfl⟩
      have HRG := Lib.hid (show RowI w6 g wd cap Gk by rw [hGk]; exact HR6.out)
      have hbk : ∀ j, j < wd → 0 ≤ Gk j ∧ Gk j ≤ 1125899906842624 := by rw [hGk]; exact HBK.out
      have m2 := mxa_bound (Gk 0) Gk wd 0 1125899906842624 (hbk 0 (by omega)) hbk
      have HMX := Lib.hid (max_any w6 _ wd Gk HRG.out.rd (by omega) (by omega))
      clear hbk hGk
      generalize mxa (Gk 0) Gk wd = mx at *
      obtain ⟨av, cv, hav⟩ := HB.out.row.rd.slice
      subst hav
      have F0 := Lib.hid (HW6.out.alloc (.cells #[.slice (some ⟨g, 0, none⟩) wd cap] 28))
      have HOW := Lib.hid (HB.out.row.kept F0.out (by simp))
      have HRW := Lib.hid (HR6.out.alloc (.cells #[.slice (some ⟨g, 0, none⟩) wd cap] 28))
      have hb6 := HW6.out.blk HB.out.blk (by simp)
      have x1 := blk_cell hb6 1 rfl
      have hs6 := HW6.out.size
      have hml : k + 1 ≤ maxLen := by unfold maxLen; omega
      clear hb6
      go_wp2_with fail
      refine HMX.out.mono ?_
      rintro e w7 ⟨rfl, hw7⟩
      replace hw7 := hw7.symm
      subst hw7
      go_wp2_with (at_builtin; refine wpList_app rfl (.tmp 33) (.tmp 35) 22 rfl 28 infoRow Tryd.underlying22 rfl HOW.out rfl (rd_one _ _ _ (by simp)) rfl (fun _ _ => rfl) hml (by omega) (by simp; omega) ?_; intro v1 w1 ho1 hf1 hn1; obtain ⟨a1, c1', hv1⟩ := ho1.rd.slice; subst hv1; have hgr := HB.out.grow HF.out F0.out HRW.out hg ho1 hf1; obtain ⟨⟨d1, d2⟩, d3, d4, d5⟩ := hgr; have HB1 := Lib.hid d3; have HF1 := Lib.hid d4; have HR1 := Lib.hid (d5 _ _ hpq.2.2 HR.out); clear hf1 hn1 ho1 d3 d4 d5)
      go_wp2
      go_roundw
      case rel => exact ⟨k + 1, _, _, _, by omega, by go_num, HR1.out, HB1.out, HF1.out⟩
      case measure => simp [intOf]; omega
    · obtain rfl : k = d := by omega
      obtain ⟨av, cv, hav⟩ := hB.row.rd.slice
      subst hav
      obtain ⟨⟨x0, y0, x1, y1⟩, ⟨x2, y2⟩, x3, x4⟩ := two_store HR.out (.int .i64 wd) (.slice av k cv)
      have hff : Fr [r] wr ((wr.setCell ⟨r, 0, none⟩ (.int .i64 wd)).setCell ⟨r, 1, none⟩ (.slice av k cv)) := ((Fr.refl [r] wr).setCell (p := ⟨r, 0, none⟩) (by simp) _).setCell (p := ⟨r, 1, none⟩) (by simp) _
      have hrd : SkO ((wr.setCell ⟨r, 0, none⟩ (.int .i64 wd)).setCell ⟨r, 1, none⟩ (.slice av k cv)) w.heap.size (.slice av k cv) k wd (fun i j => F i j + G i j) := by
        have hb' := hB
        refine ⟨rg, rc, hb'.row.kept hff (fun g hg hm => ?_), fun i hi => ⟨(hb'.all i hi).1, (hb'.all i hi).2.kept hff (fun hm => ?_)⟩⟩
        · simp only [List.mem_singleton] at hm
          subst hm
          exact hb'.row.apart HR.out (by decide) (by simp [hg])
        · simp only [List.mem_singleton] at hm
          exact (hb'.all i hi).2.apart HR.out (by decide) hm
      have c0 := blk_cell hB.blk 0 rfl
      have c1 := blk_cell hB.blk 1 rfl
      have HRD := Lib.hid hrd
      have HFF := Lib.hid (HF.out.trans hff (fun y hy => .inr (by simp at hy; omega)))
      clear hB hff hrd
      go_wp2
      exact bodyPost_ret (v := .tuple #[.agg #[.int .i64 wd, .slice av k cv], .nilIface]) (by simp [results, Tryd.results45, go_sem, x3, x4]) rfl ⟨_, rfl, HRD.out, HFF.out⟩

set_option maxHeartbeats 4000000 in
set_option maxRecDepth 100000 in
theorem sketch_join (w : World) (rv rvb : Value) (d wd : Nat) (F G : Nat → Nat → Int) (hs : SkF w rv d wd F) (hok : SkOk d wd F) (hsb : SkF w rvb d wd G) (hokb : SkOk d wd G)
    (hmx : ∀ i, i < d → ∀ j, j < wd → F i j + G i j ≤ 1125899906842624) :
    Calls Tryd.prog 18 #[.agg #[.int .i64 wd, rv], .agg #[.int .i64 wd, rvb]] w fun e w' =>
      ∃ rv', e = .returned (.tuple #[.agg #[.int .i64 wd, rv'], .nilIface]) ∧ SkO w' w.heap.size rv' d wd (fun i j => F i j + G i j) ∧ Fr [] w w' := by
  have HCK := Lib.hid (fun (w1 : World) (h : Fr [] w w1) => sketch_check w1 rv d wd F (hs.fr h) hok)
  have HCB := Lib.hid (fun (w1 : World) (h : Fr [] w w1) => sketch_check w1 rvb d wd G (hsb.fr h) hokb)
  have HMA := Lib.hid (fun (w1 : World) (h : Fr [] w w1) (bb : Nat) h1 => mapped_join w1 rv rvb d wd F G bb (hs.fr h) hok h1 (hsb.fr h) hokb.all hmx)
  obtain ⟨ra, rcc, hra⟩ := hs.slice
  subst hra
  obtain ⟨rb, rcb, hrb⟩ := hsb.slice
  subst hrb
  clear hs hok hsb hokb hmx
  have q0 := heap_alloc_new w (.cells #[.int .i64 wd, .slice ra d rcc] 24)
  have q1 := heap_alloc_new (w.alloc (.cells #[.int .i64 wd, .slice ra d rcc] 24)) (.cells #[.int .i64 wd, .slice rb d rcb] 24)
  have q3 := heap_alloc_new ((w.alloc (.cells #[.int .i64 wd, .slice ra d rcc] 24)).alloc (.cells #[.int .i64 wd, .slice rb d rcb] 24)) (.cells #[.int .i64 0, .slice none 0 0] 24)
  have f1 := (Fr.refl [] (w.alloc (.cells #[.int .i64 wd, .slice ra d rcc] 24))).alloc (.cells #[.int .i64 wd, .slice rb d rcb] 24)
  have f3 := (Fr.refl [] ((w.alloc (.cells #[.int .i64 wd, .slice ra d rcc] 24)).alloc (.cells #[.int .i64 wd, .slice rb d rcb] 24))).alloc (.cells #[.int .i64 0, .slice none 0 0] 24)
  have HF4 := Lib.hid ((((Fr.refl [] w).alloc (.cells #[.int .i64 wd, .slice ra d rcc] 24)).trans f1 (by simp)).trans f3 (by simp))
  have q0' := f3.blk (f1.blk q0 (by simp)) (by simp)
  have q1' := f3.blk q1 (by simp)
  simp only [World.size_alloc] at q1' q3
  have HQ0 := Lib.hid q0'
  have HQ1 := Lib.hid q1'
  have HQ3 := Lib.hid q3
  clear q0 q1 q3 f1 f3 q0' q1'
  go_enter Tryd.func18, Tryd.ntmps18
  go_wp2_with fail
  generalize ((w.alloc (.cells #[.int .i64 wd, .slice ra d rcc] 24)).alloc (.cells #[.int .i64 wd, .slice rb d rcb] 24)).alloc (.cells #[.int .i64 0, .slice none 0 0] 24) = w4 at *
  refine (HCK.out w4 HF4.out).mono ?_
  rintro e w5 ⟨rfl, hf5⟩
  have g0 := hf5.blk HQ0.out (by simp)
  have g1 := hf5.blk HQ1.out (by simp)
  have g3 := hf5.blk HQ3.out (by simp)
  have HF5 := Lib.hid (HF4.out.trans hf5 (by simp))
  have HG0 := Lib.hid g0
  have HG1 := Lib.hid g1
  have HG3 := Lib.hid g3
  have c0 := blk_cell g0 0 rfl
  have c1 := blk_cell g0 1 rfl
  have c2 := blk_cell g1 0 rfl
  have c3 := blk_cell g1 1 rfl
  clear hf5 g0 g1 g3
  go_wp2_with fail
  refine (HCB.out w5 HF5.out).mono ?_
  rintro e w6 ⟨rfl, hf6⟩
  clear c0 c1 c2 c3
  have g0 := hf6.blk HG0.out (by simp)
  have g1 := hf6.blk HG1.out (by simp)
  have g3 := hf6.blk HG3.out (by simp)
  have HF6 := Lib.hid (HF5.out.trans hf6 (by simp))
  have HM6 := Lib.hid (HMA.out w6 HF6.out _ g1)
  have HG3' := Lib.hid g3
  have c0 := blk_cell g0 0 rfl
  have c1 := blk_cell g0 1 rfl
  have c2 := blk_cell g1 0 rfl
  have c3 := blk_cell g1 1 rfl
  have hrr : w.heap.size ≤ w.heap.size + 1 + 1 := by omega
  have hrl := lt_of_blk g3
  have hww : ((wd : Int) != (wd : Int)) = false := by simp
  have hdd : ((d : Int) != (d : Int)) = false := by simp
  clear hf6 g0 g1 g3
  go_wp2_with fail
  refine HM6.out.mono ?_
  rintro e w7 ⟨rv', rfl, hs7, hf7⟩
  obtain ⟨ra', rc', hra'⟩ := hs7.told.slice
  subst hra'
  have g7 := hf7.blk HG3'.out (by simp)
  have HF7 := Lib.hid (HF6.out.trans hf7 (by simp))
  obtain ⟨⟨x0, y0, x1, y1⟩, ⟨x2, y2⟩, x3, x4⟩ := two_store g7 (.int .i64 wd) (.slice ra' d rc')
  have hff : Fr [w.heap.size + 1 + 1] w7 ((w7.setCell ⟨w.heap.size + 1 + 1, 0, none⟩ (.int .i64 wd)).setCell ⟨w.heap.size + 1 + 1, 1, none⟩ (.slice ra' d rc')) := ((Fr.refl [w.heap.size + 1 + 1] w7).setCell (p := ⟨w.heap.size + 1 + 1, 0, none⟩) (by simp) _).setCell (p := ⟨w.heap.size + 1 + 1, 1, none⟩) (by simp) _
  have HRD := Lib.hid ((hs7.kept hff (fun y hy => by simp at hy; omega)).mono (by omega : w.heap.size ≤ w6.heap.size))
  have HFF := Lib.hid (HF7.out.trans hff (fun y hy => .inr (by simp at hy; omega)) : Fr [] w _)
  clear hs7 hf7 g7 hff
  go_wp2
  exact bodyPost_ret (v := .tuple #[.agg #[.int .i64 wd, .slice ra' d rc'], .nilIface]) (by simp [results, Tryd.results18, go_sem, x3, x4]) rfl ⟨_, rfl, HRD.out, HFF.out⟩

end Go.Proofs.YtgpfkaiinbncnaaDoor
