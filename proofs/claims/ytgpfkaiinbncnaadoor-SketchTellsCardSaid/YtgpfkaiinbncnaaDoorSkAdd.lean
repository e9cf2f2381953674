/- SketchTells: Add, with whatever number. -/
import Derived.Test.YtgpfkaiinbncnaaDoorSkRef
import Derived.Test.YtgpfkaiinbncnaaDoorSketchAdd
namespace Go.Proofs.YtgpfkaiinbncnaaDoor
open Go.RowKit

/-- what is wrong, as the program tells it -/
def peV (z : Int) : Value := if z = 0 then .nilIface else .iface 27 (.int .i64 z)

set_option maxHeartbeats 4000000 in
set_option maxRecDepth 100000 in
theorem mapped_addz (w : World) (rv : Value) (d wd n : Nat) (F : Nat → Nat → Int) (a : Option Addr) (c : Nat) (sp : Nat → Nat) (x : Int) (bs bk bn : Nat) (hs : SkF w rv d wd F) (hok : SkOk d wd F)
    (hbs : w.heap[bs]? = some (.cells #[.int .i64 wd, rv] 24 (0, 0))) (hbk : w.heap[bk]? = some (.cells #[.slice a n c] 25 (0, 0))) (hbn : w.heap[bn]? = some (.cells #[.int .i64 x] 3 (0, 0)))
    (hsl : ∀ i, i < d → sp i < wd) (hx : 0 ≤ x ∧ x ≤ 1125899906842624) (z : Int) (hz : AddZ d F sp x z)
    (hpl : ∀ w1, Fr [] w w1 → ∀ i, i < d → Calls Tryd.prog 47 #[.agg #[.int .i64 wd, rv], .int .i64 i, .slice a n c] w1 fun e w' => e = .returned (.int .i64 (sp i)) ∧ Fr [] w1 w') :
    Calls Tryd.prog 45 #[.agg #[.int .i64 wd, rv], .func (.func 46) #[] #[.pointer (some ⟨bs, 0, none⟩), .pointer (some ⟨bk, 0, none⟩), .pointer (some ⟨bn, 0, none⟩)]] w (SkOut w d wd (fun i j => if j = sp i then F i j + x else F i j) z (peV z)) := by
  have HADD := Lib.hid (fun (w1 : World) (h1 : Fr [] w w1) (k g cr : Nat) (hk : k < d) (hr : RowI w1 g wd cr (F k)) (hg : g ≠ bn) =>
    add1_any w1 bs bk bn g rv wd k n a c cr (sp k) x (F k) (h1.blk hbs (by simp)) (h1.blk hbk (by simp)) (h1.blk hbn (by simp)) (hsl k hk) (fun w2 h2 => hpl w2 (h1.trans h2 (by simp)) k hk) hr hg hx (hok.all k hk))
  have hbnl := lt_of_blk hbn
  obtain ⟨R, hr, hR⟩ := hs
  obtain ⟨b, o, cc, rfl, _, _, _, hc⟩ := hr.shape (by have := hok.deep; omega)
  have hd := hok.deep
  have hw := hok.wide
  have HC := Lib.hid hc
  have HRR := Lib.hid hR
  have HBD := Lib.hid (show ∀ i, i < d → F i (sp i) + x ≤ 1125899906842624 → ∀ j, j < wd → 0 ≤ (if j = sp i then F i j + x else F i j) ∧ (if j = sp i then F i j + x else F i j) ≤ 1125899906842624 from fun i hi hm j hj => by
    have h1 := hok.all i hi j hj
    by_cases h : j = sp i
    · subst h
      simp only [if_pos]
      omega
    · rw [if_neg h]; exact h1)
  have HZ := Lib.hid hz
  have HX := Lib.hid hx
  have HSL := Lib.hid hsl
  clear hc hR hr hok hsl hpl hz hbs hbk hbn hx
  go_enter Tryd.func45, Tryd.ntmps45
  have hb0 := heap_alloc_new w (.cells #[.int .i64 wd, .slice (some ⟨b, o, none⟩) d cc] 24)
  have hb1 := heap_alloc_new (w.alloc (.cells #[.int .i64 wd, .slice (some ⟨b, o, none⟩) d cc] 24)) (.cells #[.int .i64 0, .slice none 0 0] 24)
  have hb2 := heap_alloc_new ((w.alloc (.cells #[.int .i64 wd, .slice (some ⟨b, o, none⟩) d cc] 24)).alloc (.cells #[.int .i64 0, .slice none 0 0] 24)) (.cells #[.int .i64 wd, .slice none 0 0] 24)
  have hq1 := ((Fr.refl [] _).alloc (.cells #[.int .i64 wd, .slice none 0 0] 24)).blk hb1 (by simp)
  simp only [World.size_alloc] at hb1 hb2 hq1
  have HQ1 := Lib.hid hq1
  have HQ2 := Lib.hid hb2
  have HF3 := Lib.hid ((((Fr.refl [] w).alloc (.cells #[.int .i64 wd, .slice (some ⟨b, o, none⟩) d cc] 24)).alloc (.cells #[.int .i64 0, .slice none 0 0] 24)).alloc (.cells #[.int .i64 wd, .slice none 0 0] 24))
  clear hb0 hb1 hb2 hq1
  go_wp2
  generalize ((w.alloc (.cells #[.int .i64 wd, .slice (some ⟨b, o, none⟩) d cc] 24)).alloc (.cells #[.int .i64 0, .slice none 0 0] 24)).alloc (.cells #[.int .i64 wd, .slice none 0 0] 24) = w3 at *
  have hpq : w.heap.size ≤ w.heap.size + 1 ∧ w.heap.size ≤ w.heap.size + 1 + 1 ∧ w.heap.size + 1 ≠ w.heap.size + 1 + 1 := by omega
  obtain ⟨r, hr⟩ : ∃ r, r = w.heap.size + 1 := ⟨_, rfl⟩
  obtain ⟨p, hp⟩ : ∃ p, p = w.heap.size + 1 + 1 := ⟨_, rfl⟩
  rw [← hp, ← hr] at hpq
  rw [← hr] at HQ1
  rw [← hp] at HQ2
  rw [← hp, ← hr]
  clear hp hr
  go_loopw [7, 8, 9, 16] (fun _ _ _ i wr => ∃ (k : Nat) (v : Value) (rg rc : Nat → Nat), k ≤ d ∧ i = .int .i64 k ∧ Hid (∀ i, i < k → F i (sp i) + x ≤ 1125899906842624) ∧ wr.heap[r]? = some (.cells #[.int .i64 0, .slice none 0 0] 24 (0, 0)) ∧ SkB wr w.heap.size p v k wd rg rc (fun i j => if j = sp i then F i j + x else F i j) ∧ Fr [] w wr) (fun _ _ _ i _ => d - (intOf i).toNat)
  case atStart => exact ⟨0, .slice none 0 0, fun _ => 0, fun _ => 0, by omega, rfl, Lib.hid (fun i hi => by omega), HQ1.out, ⟨HQ2.out, OwnF.nil _ _ _ _, fun i hi => by omega, by omega⟩, HF3.out⟩
  case round =>
    clear HQ1 HQ2 HF3
    obtain ⟨k, v, rg, rc, hk, rfl, HMX, hR, hB, hf⟩ := hrel
    have hsz := hf.size
    have HF := Lib.hid hf; clear hf
    have HB := Lib.hid hB
    have HR := Lib.hid hR; clear hR
    by_cases hlt : k < d
    · have hrow := HRR.out k hlt
      obtain ⟨b2, o2, c2, he2, _, _, _, _⟩ := hrow.shape (by omega)
      have k1 := HF.out.cell (HC.out k hlt) (by simp)
      rw [he2] at k1 hrow
      have HROW := Lib.hid (hrow.fr HF.out (by simp))
      have HAK := Lib.hid (fun w1 h1 g cr hr hg => HADD.out w1 h1 k g cr hlt hr hg)
      have HBK := Lib.hid (HBD.out k hlt)
      have hskl := HSL.out k hlt
      clear hrow he2 hB
      have k0 : (0 : Int) ≤ (k : Int) := by omega
      have k3 : (k : Int) < (d : Int) := by omega
      go_wp2_with fail
      refine (clone_pos wr _ wd (F k) HROW.out (by omega) (by omega)).mono ?_
      rintro e w5 ⟨g, cap, rfl, hg, hr5, hf5⟩
      have HR5 := Lib.hid hr5
      have HF5 := Lib.hid (HF.out.trans hf5 (by simp))
      have HW5 := Lib.hid hf5
      clear hr5 hf5 k1
      go_wp2_with fail
      refine (HAK.out w5 HF5.out g cap HR5.out (by omega)).mono ?_
      rintro e w6 ⟨rfl, hr6, hf6⟩
      have HR6 := Lib.hid hr6
      have HW6 := Lib.hid (HW5.out.trans hf6 (fun y hy => .inr (by simp at hy; omega)) : Fr [] wr w6)
      clear hr6 hf6
      obtain ⟨Gk, hGk⟩ : ∃ Gk : Nat → Int, Gk = fun j => if j = sp k then F k j + x else F k j := ⟨_, rfl⟩
      have HRG := Lib.hid (show RowI w6 g wd cap Gk by rw [hGk]; exact HR6.out)
      have hmk : F k (sp k) + x ≤ 1125899906842624 → mxa (Gk 0) Gk wd ≤ 1125899906842624 := fun h => by
        have hbk : ∀ j, j < wd → 0 ≤ Gk j ∧ Gk j ≤ 1125899906842624 := by rw [hGk]; exact HBK.out h
        exact (mxa_bound (Gk 0) Gk wd 0 1125899906842624 (hbk 0 (by omega)) hbk).2
      have hmo : ¬ F k (sp k) + x ≤ 1125899906842624 → 1125899906842624 < mxa (Gk 0) Gk wd := fun h => by
        have h1 := (mxa_le (Gk 0) Gk wd).2 (sp k) hskl
        have h2 : Gk (sp k) = F k (sp k) + x := by rw [hGk]; simp
        omega
      have HMXR := Lib.hid (max_any w6 _ wd Gk HRG.out.rd (by omega) (by omega))
      have HMK := Lib.hid hmk
      have HMO := Lib.hid hmo
      clear hGk hmk hmo
      generalize mxa (Gk 0) Gk wd = mx at *
      obtain ⟨av, cv, hav⟩ := HB.out.row.rd.slice
      subst hav
      have F0 := Lib.hid (HW6.out.alloc (.cells #[.slice (some ⟨g, 0, none⟩) wd cap] 28))
      have HOW := Lib.hid (HB.out.row.kept F0.out (by simp))
      have HRW := Lib.hid (HR6.out.alloc (.cells #[.slice (some ⟨g, 0, none⟩) wd cap] 28))
      have hb6 := HW6.out.blk HB.out.blk (by simp)
      have x1 := blk_cell hb6 1 rfl
      have hs6 := HW6.out.size
      have hml : k + 1 ≤ maxLen := by unfold maxLen; omega
      clear hb6
      by_cases hov : F k (sp k) + x ≤ 1125899906842624
      · have HMX2 := Lib.hid (show ∀ i, i < k + 1 → F i (sp i) + x ≤ 1125899906842624 from fun i hi => by
          by_cases hik : i < k
          · exact HMX.out i hik
          · obtain rfl : i = k := by omega
            exact hov)
        have m2 := HMK.out hov
        go_wp2_with fail
        refine HMXR.out.mono ?_
        rintro e w7 ⟨rfl, hw7⟩
        replace hw7 := hw7.symm
        subst hw7
        go_wp2_with (at_builtin; refine wpList_app rfl (.tmp 33) (.tmp 35) 22 rfl 28 infoRow Tryd.underlying22 rfl HOW.out rfl (rd_one _ _ _ (by simp)) rfl (fun _ _ => rfl) hml (by omega) (by simp; omega) ?_; intro v1 w1 ho1 hf1 hn1; obtain ⟨a1, c1', hv1⟩ := ho1.rd.slice; subst hv1; have hgr := HB.out.grow HF.out F0.out HRW.out hg ho1 hf1; obtain ⟨⟨d1, d2⟩, d3, d4, d5⟩ := hgr; have HB1 := Lib.hid d3; have HF1 := Lib.hid d4; have HR1 := Lib.hid (d5 _ _ hpq.2.2 HR.out); clear hf1 hn1 ho1 d3 d4 d5)
        go_wp2
        go_roundw
        case rel => exact ⟨k + 1, _, _, _, by omega, by go_num, HMX2, HR1.out, HB1.out, HF1.out⟩
        case measure => simp [intOf]; omega
      · have m2 := HMO.out hov
        have hz7 : z = 7 := by
          rcases HZ.out with ⟨h1, _⟩ | ⟨_, _, h1⟩ | ⟨_, h1, _⟩
          · exact absurd HX.out h1
          · exact h1
          · exact absurd (h1 k hlt) hov
        have HZ7 := Lib.hid hz7
        have hbr6 := HW6.out.blk HR.out (by simp)
        obtain ⟨⟨x0, y0, x5, y1⟩, ⟨x2, y2⟩, x3, x4⟩ := two_store hbr6 (.int .i64 0) (.slice none 0 0)
        have hff : Fr [r] w6 ((w6.setCell ⟨r, 0, none⟩ (.int .i64 0)).setCell ⟨r, 1, none⟩ (.slice none 0 0)) := ((Fr.refl [r] _).setCell (p := ⟨r, 0, none⟩) (by simp) _).setCell (p := ⟨r, 1, none⟩) (by simp) _
        have HFF := Lib.hid ((HF.out.trans HW6.out (S := []) (by simp)).trans hff (fun y hy => .inr (by simp at hy; omega)))
        clear hff hbr6 hz7 hov
        go_wp2_with fail
        refine HMXR.out.mono ?_
        rintro e w7 ⟨rfl, hw7⟩
        replace hw7 := hw7.symm
        subst hw7
        go_wp2
        rw [HZ7.out]
        exact bodyPost_ret (v := .tuple #[.agg #[.int .i64 0, .slice none 0 0], .iface 27 (.int .i64 7)]) (by simp [results, Tryd.results45, go_sem, x3, x4]) rfl (SkOut.bad HFF.out (by decide))
    · obtain rfl : k = d := by omega
      have hz0 : z = 0 := by
        rcases HZ.out with ⟨h1, _⟩ | ⟨_, h1, _⟩ | ⟨_, _, h1⟩
        · exact absurd HX.out h1
        · exact absurd HMX.out h1
        · exact h1
      have HZ0 := Lib.hid hz0
      clear hz0
      obtain ⟨av, cv, hav⟩ := hB.row.rd.slice
      subst hav
      obtain ⟨⟨x0, y0, x1, y1⟩, ⟨x2, y2⟩, x3, x4⟩ := two_store HR.out (.int .i64 wd) (.slice av k cv)
      have hff : Fr [r] wr ((wr.setCell ⟨r, 0, none⟩ (.int .i64 wd)).setCell ⟨r, 1, none⟩ (.slice av k cv)) := ((Fr.refl [r] wr).setCell (p := ⟨r, 0, none⟩) (by simp) _).setCell (p := ⟨r, 1, none⟩) (by simp) _
      have hrd : SkO ((wr.setCell ⟨r, 0, none⟩ (.int .i64 wd)).setCell ⟨r, 1, none⟩ (.slice av k cv)) w.heap.size (.slice av k cv) k wd (fun i j => if j = sp i then F i j + x else F i j) := by
        have hb' := hB
        refine ⟨rg, rc, hb'.row.kept hff (fun g hg hm => ?_), fun i hi => ⟨(hb'.all i hi).1, (hb'.all i hi).2.kept hff (fun hm => ?_)⟩⟩
        · simp only [List.mem_singleton] at hm
          subst hm
          exact hb'.row.apart HR.out (by decide) (by simp [hg])
        · simp only [List.mem_singleton] at hm
          exact (hb'.all i hi).2.apart HR.out (by decide) hm
      have c0 := blk_cell hB.blk 0 rfl
      have c1 := blk_cell hB.blk 1 rfl
      have HRD := Lib.hid hrd
      have HFF := Lib.hid (HF.out.trans hff (fun y hy => .inr (by simp at hy; omega)))
      clear hB hff hrd
      go_wp2
      rw [HZ0.out]
      exact bodyPost_ret (v := .tuple #[.agg #[.int .i64 wd, .slice av k cv], .nilIface]) (by simp [results, Tryd.results45, go_sem, x3, x4]) rfl (SkOut.good HFF.out HRD.out)


set_option maxHeartbeats 4000000 in
set_option maxRecDepth 100000 in
theorem sketch_addz (w : World) (rv : Value) (d wd n : Nat) (F : Nat → Nat → Int) (a : Option Addr) (c : Nat) (sp : Nat → Nat) (x : Int) (hs : SkF w rv d wd F) (hok : SkOk d wd F)
    (hsl : ∀ i, i < d → sp i < wd) (z : Int) (hz : AddZ d F sp x z)
    (hpl : ∀ w1, Fr [] w w1 → ∀ i, i < d → Calls Tryd.prog 47 #[.agg #[.int .i64 wd, rv], .int .i64 i, .slice a n c] w1 fun e w' => e = .returned (.int .i64 (sp i)) ∧ Fr [] w1 w') :
    Calls Tryd.prog 15 #[.agg #[.int .i64 wd, rv], .slice a n c, .int .i64 x] w (SkOut w d wd (fun i j => if j = sp i then F i j + x else F i j) z (peV z)) := by
  have HCK := Lib.hid (fun (w1 : World) (h : Fr [] w w1) => sketch_check w1 rv d wd F (hs.fr h) hok)
  have HMA := Lib.hid (fun (w1 : World) (h : Fr [] w w1) (bs bk bn : Nat) (hx : 0 ≤ x ∧ x ≤ 1125899906842624) h1 h2 h3 => mapped_addz w1 rv d wd n F a c sp x bs bk bn (hs.fr h) hok h1 h2 h3 hsl hx z hz (fun w2 h4 => hpl w2 (h.trans h4 (by simp))))
  have HZ := Lib.hid hz
  obtain ⟨ra, rcc, hra⟩ := hs.slice
  subst hra
  clear hs hok hsl hz hpl
  have q0 := heap_alloc_new w (.cells #[.int .i64 wd, .slice ra d rcc] 24)
  have q1 := heap_alloc_new (w.alloc (.cells #[.int .i64 wd, .slice ra d rcc] 24)) (.cells #[.slice a n c] 25)
  have q2 := heap_alloc_new ((w.alloc (.cells #[.int .i64 wd, .slice ra d rcc] 24)).alloc (.cells #[.slice a n c] 25)) (.cells #[.int .i64 x] 3)
  have q3 := heap_alloc_new (((w.alloc (.cells #[.int .i64 wd, .slice ra d rcc] 24)).alloc (.cells #[.slice a n c] 25)).alloc (.cells #[.int .i64 x] 3)) (.cells #[.int .i64 0, .slice none 0 0] 24)
  have f1 := (Fr.refl [] (w.alloc (.cells #[.int .i64 wd, .slice ra d rcc] 24))).alloc (.cells #[.slice a n c] 25)
  have f2 := (Fr.refl [] ((w.alloc (.cells #[.int .i64 wd, .slice ra d rcc] 24)).alloc (.cells #[.slice a n c] 25))).alloc (.cells #[.int .i64 x] 3)
  have f3 := (Fr.refl [] (((w.alloc (.cells #[.int .i64 wd, .slice ra d rcc] 24)).alloc (.cells #[.slice a n c] 25)).alloc (.cells #[.int .i64 x] 3))).alloc (.cells #[.int .i64 0, .slice none 0 0] 24)
  have HF4 := Lib.hid (((((Fr.refl [] w).alloc (.cells #[.int .i64 wd, .slice ra d rcc] 24)).trans f1 (by simp)).trans f2 (by simp)).trans f3 (by simp))
  have q0' := f3.blk (f2.blk (f1.blk q0 (by simp)) (by simp)) (by simp)
  have q1' := f3.blk (f2.blk q1 (by simp)) (by simp)
  have q2' := f3.blk q2 (by simp)
  simp only [World.size_alloc] at q1' q2' q3
  have HQ0 := Lib.hid q0'
  have HQ1 := Lib.hid q1'
  have HQ2 := Lib.hid q2'
  have HQ3 := Lib.hid q3
  clear q0 q1 q2 q3 f1 f2 f3 q0' q1' q2'
  go_enter Tryd.func15, Tryd.ntmps15
  go_wp2_with fail
  generalize (((w.alloc (.cells #[.int .i64 wd, .slice ra d rcc] 24)).alloc (.cells #[.slice a n c] 25)).alloc (.cells #[.int .i64 x] 3)).alloc (.cells #[.int .i64 0, .slice none 0 0] 24) = w4 at *
  refine (HCK.out w4 HF4.out).mono ?_
  rintro e w5 ⟨rfl, hf5⟩
  have g0 := hf5.blk HQ0.out (by simp)
  have g1 := hf5.blk HQ1.out (by simp)
  have g2 := hf5.blk HQ2.out (by simp)
  have g3 := hf5.blk HQ3.out (by simp)
  have HF5 := Lib.hid (HF4.out.trans hf5 (by simp))
  have HG3 := Lib.hid g3
  have c0 := blk_cell g0 0 rfl
  have c1 := blk_cell g0 1 rfl
  have c2 := blk_cell g2 0 rfl
  have hrr : w.heap.size ≤ w.heap.size + 1 + 1 + 1 := by omega
  have hrl := lt_of_blk g3
  by_cases hx : 0 ≤ x ∧ x ≤ 1125899906842624
  · have HM5 := Lib.hid (HMA.out w5 HF5.out _ _ _ hx g0 g1 g2)
    obtain ⟨hx1, hx2⟩ := hx
    clear hf5 g0 g1 g2 g3
    go_wp2_with fail
    refine HM5.out.mono ?_
    rintro e w6 ⟨hf6, rv', rfl, hs6⟩
    obtain ⟨ra', rc', hra'⟩ := hs6.told.slice
    subst hra'
    obtain ⟨D', hD'⟩ : ∃ D', D' = if z = 0 then d else 0 := ⟨_, rfl⟩
    obtain ⟨W', hW'⟩ : ∃ W', W' = if z = 0 then wd else 0 := ⟨_, rfl⟩
    obtain ⟨ev, hev⟩ : ∃ ev, ev = peV z := ⟨_, rfl⟩
    rw [← hD', ← hW'] at hs6
    rw [← hD', ← hW', ← hev]
    have HD' := Lib.hid hD'
    have HW' := Lib.hid hW'
    have HEV := Lib.hid hev
    clear hD' hW' hev
    have g6 := hf6.blk HG3.out (by simp)
    have HF6 := Lib.hid (HF5.out.trans hf6 (by simp))
    obtain ⟨⟨x0, y0, x1, y1⟩, ⟨x2, y2⟩, x3, x4⟩ := two_store g6 (.int .i64 W') (.slice ra' D' rc')
    have hff : Fr [w.heap.size + 1 + 1 + 1] w6 ((w6.setCell ⟨w.heap.size + 1 + 1 + 1, 0, none⟩ (.int .i64 W')).setCell ⟨w.heap.size + 1 + 1 + 1, 1, none⟩ (.slice ra' D' rc')) := ((Fr.refl [w.heap.size + 1 + 1 + 1] w6).setCell (p := ⟨w.heap.size + 1 + 1 + 1, 0, none⟩) (by simp) _).setCell (p := ⟨w.heap.size + 1 + 1 + 1, 1, none⟩) (by simp) _
    have HRD := Lib.hid ((hs6.kept hff (fun y hy => by simp at hy; omega)).mono (by omega : w.heap.size ≤ w5.heap.size))
    have HFF := Lib.hid (HF6.out.trans hff (fun y hy => .inr (by simp at hy; omega)) : Fr [] w _)
    clear hs6 hf6 g6 hff
    go_wp2
    exact bodyPost_ret (v := .tuple #[.agg #[.int .i64 W', .slice ra' D' rc'], ev]) (by simp [results, Tryd.results15, go_sem, x3, x4]) rfl ⟨HFF.out, _, by rw [HW'.out, HEV.out], by rw [← HD'.out, ← HW'.out]; exact HRD.out⟩
  · have hz6 : z = 6 := by
      rcases HZ.out with ⟨_, h1⟩ | ⟨h1, _⟩ | ⟨h1, _⟩
      · exact h1
      · exact absurd h1 hx
      · exact absurd h1 hx
    have HZ6 := Lib.hid hz6
    obtain ⟨⟨x0, y0, x1, y1⟩, ⟨x2, y2⟩, x3, x4⟩ := two_store HG3.out (.int .i64 0) (.slice none 0 0)
    have hff : Fr [w.heap.size + 1 + 1 + 1] w5 ((w5.setCell ⟨w.heap.size + 1 + 1 + 1, 0, none⟩ (.int .i64 0)).setCell ⟨w.heap.size + 1 + 1 + 1, 1, none⟩ (.slice none 0 0)) := ((Fr.refl [w.heap.size + 1 + 1 + 1] w5).setCell (p := ⟨w.heap.size + 1 + 1 + 1, 0, none⟩) (by simp) _).setCell (p := ⟨w.heap.size + 1 + 1 + 1, 1, none⟩) (by simp) _
    have HFF := Lib.hid (HF5.out.trans hff (fun y hy => .inr (by simp at hy; omega)) : Fr [] w _)
    have hgg : x < 0 ∨ (0 ≤ x ∧ 1125899906842624 < x) := by omega
    clear hx hz6 hff hf5 g0 g1 g2 g3
    rcases hgg with h1 | ⟨h1, h2⟩
    all_goals
      go_wp2
      rw [HZ6.out]
      exact bodyPost_ret (v := .tuple #[.agg #[.int .i64 0, .slice none 0 0], .iface 27 (.int .i64 6)]) (by simp [results, Tryd.results15, go_sem, x3, x4]) rfl (SkOut.bad HFF.out (by decide))

set_option maxHeartbeats 4000000 in
set_option maxRecDepth 100000 in
theorem sketch_add_bad (w : World) (rv : Value) (ws : Int) (d n d' wd' : Nat) (L : Nat → Nat) (F G : Nat → Nat → Int) (a : Option Addr) (c : Nat) (x : Int) (hs : SkG w rv d L F) (hd : d ≤ 140737488355328) (hL : ∀ i, i < d → L i ≤ 140737488355328) (hbad : ¬ SkGood ws d L F) :
    Calls Tryd.prog 15 #[.agg #[.int .i64 ws, rv], .slice a n c, .int .i64 x] w (SkOut w d' wd' G 6 (peV 6)) := by
  have HCK := Lib.hid (fun (w1 : World) (h : Fr [] w w1) => check_fault w1 rv ws d L F (hs.fr h) hd hL hbad)
  have hsl : ∃ ra rcc, rv = .slice ra d rcc := by
    obtain ⟨R, r1, _⟩ := hs
    exact r1.slice
  obtain ⟨ra, rcc, hra⟩ := hsl
  subst hra
  clear hs hbad
  have q0 := heap_alloc_new w (.cells #[.int .i64 ws, .slice ra d rcc] 24)
  have q1 := heap_alloc_new (w.alloc (.cells #[.int .i64 ws, .slice ra d rcc] 24)) (.cells #[.slice a n c] 25)
  have q2 := heap_alloc_new ((w.alloc (.cells #[.int .i64 ws, .slice ra d rcc] 24)).alloc (.cells #[.slice a n c] 25)) (.cells #[.int .i64 x] 3)
  have q3 := heap_alloc_new (((w.alloc (.cells #[.int .i64 ws, .slice ra d rcc] 24)).alloc (.cells #[.slice a n c] 25)).alloc (.cells #[.int .i64 x] 3)) (.cells #[.int .i64 0, .slice none 0 0] 24)
  have f1 := (Fr.refl [] (w.alloc (.cells #[.int .i64 ws, .slice ra d rcc] 24))).alloc (.cells #[.slice a n c] 25)
  have f2 := (Fr.refl [] ((w.alloc (.cells #[.int .i64 ws, .slice ra d rcc] 24)).alloc (.cells #[.slice a n c] 25))).alloc (.cells #[.int .i64 x] 3)
  have f3 := (Fr.refl [] (((w.alloc (.cells #[.int .i64 ws, .slice ra d rcc] 24)).alloc (.cells #[.slice a n c] 25)).alloc (.cells #[.int .i64 x] 3))).alloc (.cells #[.int .i64 0, .slice none 0 0] 24)
  have HF4 := Lib.hid (((((Fr.refl [] w).alloc (.cells #[.int .i64 ws, .slice ra d rcc] 24)).trans f1 (by simp)).trans f2 (by simp)).trans f3 (by simp))
  have q0' := f3.blk (f2.blk (f1.blk q0 (by simp)) (by simp)) (by simp)
  simp only [World.size_alloc] at q3
  have HQ3 := Lib.hid q3
  have c0 := blk_cell (v := .int .i64 ws) q0' 0 rfl
  have c1 := blk_cell (v := .slice ra d rcc) q0' 1 rfl
  clear q0 q1 q2 q3 f1 f2 f3 q0'
  go_enter Tryd.func15, Tryd.ntmps15
  go_wp2_with fail
  generalize (((w.alloc (.cells #[.int .i64 ws, .slice ra d rcc] 24)).alloc (.cells #[.slice a n c] 25)).alloc (.cells #[.int .i64 x] 3)).alloc (.cells #[.int .i64 0, .slice none 0 0] 24) = w4 at *
  refine (HCK.out w4 HF4.out).mono ?_
  rintro e w5 ⟨rfl, hf5⟩
  have g3 := hf5.blk HQ3.out (by simp)
  have hrl := lt_of_blk g3
  obtain ⟨⟨x0, y0, x1, y1⟩, ⟨x2, y2⟩, x3, x4⟩ := two_store g3 (.int .i64 0) (.slice none 0 0)
  have hff : Fr [w.heap.size + 1 + 1 + 1] w5 ((w5.setCell ⟨w.heap.size + 1 + 1 + 1, 0, none⟩ (.int .i64 0)).setCell ⟨w.heap.size + 1 + 1 + 1, 1, none⟩ (.slice none 0 0)) := ((Fr.refl [w.heap.size + 1 + 1 + 1] w5).setCell (p := ⟨w.heap.size + 1 + 1 + 1, 0, none⟩) (by simp) _).setCell (p := ⟨w.heap.size + 1 + 1 + 1, 1, none⟩) (by simp) _
  have HFF := Lib.hid ((HF4.out.trans hf5 (by simp)).trans hff (fun y hy => .inr (by simp at hy; omega)) : Fr [] w _)
  clear hf5 g3 hff
  go_wp2
  exact bodyPost_ret (v := .tuple #[.agg #[.int .i64 0, .slice none 0 0], .iface 27 (.int .i64 6)]) (by simp [results, Tryd.results15, go_sem, x3, x4]) rfl (SkOut.bad HFF.out (by decide))

set_option maxHeartbeats 4000000 in
set_option maxRecDepth 100000 in
theorem sketch_count_bad (w : World) (rv : Value) (ws : Int) (d n : Nat) (L : Nat → Nat) (F : Nat → Nat → Int) (a : Option Addr) (c : Nat) (hs : SkG w rv d L F) (hd : d ≤ 140737488355328) (hL : ∀ i, i < d → L i ≤ 140737488355328) (hbad : ¬ SkGood ws d L F) :
    Calls Tryd.prog 16 #[.agg #[.int .i64 ws, rv], .slice a n c] w fun e w' => e = .returned (.tuple #[.int .i64 0, .iface 27 (.int .i64 6)]) ∧ Fr [] w w' := by
  have HCK := Lib.hid (fun (w1 : World) (h : Fr [] w w1) => check_fault w1 rv ws d L F (hs.fr h) hd hL hbad)
  have hsl : ∃ ra rcc, rv = .slice ra d rcc := by
    obtain ⟨R, r1, _⟩ := hs
    exact r1.slice
  obtain ⟨ra, rcc, hra⟩ := hsl
  subst hra
  clear hs hbad
  have hb0 := heap_alloc_new w (.cells #[.int .i64 ws, .slice ra d rcc] 24)
  have c0 := blk_cell (v := .int .i64 ws) hb0 0 rfl
  have c1 := blk_cell (v := .slice ra d rcc) hb0 1 rfl
  have HF0 := Lib.hid ((Fr.refl [] w).alloc (.cells #[.int .i64 ws, .slice ra d rcc] 24))
  clear hb0
  go_enter Tryd.func16, Tryd.ntmps16
  go_wp2_with fail
  refine (HCK.out _ HF0.out).mono ?_
  rintro e w2 ⟨rfl, hf2⟩
  have HF2 := Lib.hid (HF0.out.trans hf2 (by simp))
  clear hf2 c0 c1
  go_wp2
  go_ret2
  exact ⟨rfl, HF2.out⟩

end Go.Proofs.YtgpfkaiinbncnaaDoor
