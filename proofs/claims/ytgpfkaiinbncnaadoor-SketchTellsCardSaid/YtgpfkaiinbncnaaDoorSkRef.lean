/- SketchTells: Sketched of the reference. -/
import Derived.Test.YtgpfkaiinbncnaaDoorSkSpot
import Derived.Test.YtgpfkaiinbncnaaDoorSketchAdd
namespace Go.Proofs.YtgpfkaiinbncnaaDoor
open Go.RowKit

/-- a sketch and what is wrong come out: G where z is 0, else nothing -/
def SkOut (w : World) (d wd : Nat) (G : Nat → Nat → Int) (z : Int) (er : Value) (e : Ending) (w' : World) : Prop :=
  Fr [] w w' ∧ ∃ rv', e = .returned (.tuple #[.agg #[.int .i64 ((if z = 0 then wd else 0 : Nat) : Int), rv'], er]) ∧ SkO w' w.heap.size rv' (if z = 0 then d else 0) (if z = 0 then wd else 0) G

theorem SkOut.good {w w' : World} {d wd : Nat} {G : Nat → Nat → Int} {er rv' : Value} (hf : Fr [] w w') (hs : SkO w' w.heap.size rv' d wd G) : SkOut w d wd G 0 er (.returned (.tuple #[.agg #[.int .i64 wd, rv'], er])) w' :=
  ⟨hf, rv', rfl, hs⟩

theorem SkOut.bad {w w' : World} {d wd : Nat} {G : Nat → Nat → Int} {z : Int} {er : Value} (hf : Fr [] w w') (hz : z ≠ 0) : SkOut w d wd G z er (.returned (.tuple #[.agg #[.int .i64 0, .slice none 0 0], er])) w' := by
  refine ⟨hf, .slice none 0 0, ?_, ?_⟩
  · rw [if_neg hz]; rfl
  · rw [if_neg hz, if_neg hz]
    exact ⟨fun _ => 0, fun _ => 0, OwnF.nil _ _ _ _, fun i hi => by omega⟩

/-- what is wrong with an Add -/
def AddZ (d : Nat) (F : Nat → Nat → Int) (sp : Nat → Nat) (x z : Int) : Prop :=
  (¬ (0 ≤ x ∧ x ≤ 1125899906842624) ∧ z = 6) ∨ ((0 ≤ x ∧ x ≤ 1125899906842624) ∧ (¬ ∀ i, i < d → F i (sp i) + x ≤ 1125899906842624) ∧ z = 7) ∨
    ((0 ≤ x ∧ x ≤ 1125899906842624) ∧ (∀ i, i < d → F i (sp i) + x ≤ 1125899906842624) ∧ z = 0)

theorem addZ_ex (d : Nat) (F : Nat → Nat → Int) (sp : Nat → Nat) (x : Int) : ∃ z, AddZ d F sp x z := by
  by_cases h : 0 ≤ x ∧ x ≤ 1125899906842624
  · by_cases h2 : ∀ i, i < d → F i (sp i) + x ≤ 1125899906842624
    · exact ⟨0, .inr (.inr ⟨h, h2, rfl⟩)⟩
    · exact ⟨7, .inr (.inl ⟨h, h2, rfl⟩)⟩
  · exact ⟨6, .inl ⟨h, rfl⟩⟩

theorem info_empty (w : World) (E : TypeId) : OwnF (w.alloc (.cells #[] E)) w.heap.size E (.slice (some ⟨w.heap.size, 0, none⟩) 0 0) 0 (fun _ => undef) :=
  OwnF.of_owns (World.ownsRow_made (base := w.heap.size) (size := 1) (e := E) w #[] 0 (Nat.le_refl _) (by decide) rfl) (fun _ => undef) (fun j hj => by omega)

theorem blk_stay {w : World} {g E n cap k : Nat} {f : Nat → Value} {u : Value} (h : RowF w g E n cap (fun j => if j = k then u else f j)) (hk : k < n) : w.cell? ⟨g, k, none⟩ = some u := by
  have := h.cell k hk
  simpa using this

set_option maxHeartbeats 4000000 in
set_option maxRecDepth 100000 in
theorem sketched_ref (w : World) (rv : Value) (d wd n : Nat) (F : Nat → Nat → Int) (a : Option Addr) (c : Nat) (sp : Nat → Nat) (x z : Int) (hs : SkF w rv d wd F) (hok : SkOk d wd F) (hsl : ∀ i, i < d → sp i < wd) (hz : AddZ d F sp x z)
    (hpl : ∀ w1, Fr [] w w1 → ∀ i, i < d → Calls Tryd.prog 44 #[.agg #[.int .i64 wd, rv], .int .i64 i, .slice a n c] w1 fun e w' => e = .returned (.int .i64 (sp i)) ∧ Fr [] w1 w') :
    Calls Tryd.prog 13 #[.agg #[.int .i64 wd, rv], .slice a n c, .int .i64 x] w (SkOut w d wd (fun i j => if j = sp i then F i j + x else F i j) z (.int .i64 z)) := by
  obtain ⟨R, hr, hR⟩ := hs
  have hd := hok.deep
  have hw := hok.wide
  obtain ⟨b, o, cc, rfl, _, _, _, hc⟩ := hr.shape (by omega)
  have HC := Lib.hid hc
  have HRR := Lib.hid hR
  have HSL := Lib.hid hsl
  have HPL := Lib.hid hpl
  have HOK := Lib.hid hok
  have HZ := Lib.hid hz
  clear hc hR hr hok hsl hpl hz
  have hb0 := heap_alloc_new w (.cells #[.int .i64 wd, .slice (some ⟨b, o, none⟩) d cc] 24)
  have hb1 := heap_alloc_new (w.alloc (.cells #[.int .i64 wd, .slice (some ⟨b, o, none⟩) d cc] 24)) (.cells #[.int .i64 0, .slice none 0 0] 24)
  have hq0 := ((Fr.refl [] _).alloc (.cells #[.int .i64 0, .slice none 0 0] 24)).blk hb0 (by simp)
  simp only [World.size_alloc] at hb1 hq0
  have HF0 := Lib.hid (((Fr.refl [] w).alloc (.cells #[.int .i64 wd, .slice (some ⟨b, o, none⟩) d cc] 24)).alloc (.cells #[.int .i64 0, .slice none 0 0] 24))
  have HQ0 := Lib.hid hq0
  have HQ1 := Lib.hid hb1
  clear hb0 hb1 hq0
  by_cases hx : 0 ≤ x ∧ x ≤ 1125899906842624
  · have HX := Lib.hid hx
    obtain ⟨hx1, hx2⟩ := hx
    have c0 := blk_cell (v := .int .i64 wd) HQ0.out 0 rfl
    have c1 := blk_cell (v := .slice (some ⟨b, o, none⟩) d cc) HQ0.out 1 rfl
    go_enter Tryd.func13, Tryd.ntmps13
    go_upto_region 3 with fail
    generalize (w.alloc (.cells #[.int .i64 wd, .slice (some ⟨b, o, none⟩) d cc] 24)).alloc (.cells #[.int .i64 0, .slice none 0 0] 24) = w2 at *
    have hsz0 := HF0.out.size
    have hpr : w.heap.size ≤ w.heap.size + 1 ∧ w.heap.size ≠ w.heap.size + 1 := by omega
    obtain ⟨r, hr⟩ : ∃ r, r = w.heap.size + 1 := ⟨_, rfl⟩
    have hrl : r < w2.heap.size := by rw [hr]; exact lt_of_blk HQ1.out
    rw [← hr] at HQ1 hpr ⊢
    clear hr
    have HNB := Lib.hid (heap_alloc_new w2 (.cells #[.int .i64 wd, .slice none 0 0] 24))
    have HF3 := Lib.hid ((Fr.refl [] w2).alloc (.cells #[.int .i64 wd, .slice none 0 0] 24))
    go_wp2_with fail
    generalize w2.alloc (.cells #[.int .i64 wd, .slice none 0 0] 24) = w3 at *
    have hqr : r ≠ w2.heap.size := by omega
    have hwq : w.heap.size ≤ w2.heap.size := hsz0
    clear c0 c1
    generalize w2.heap.size = q at *
    go_loopw [9] (fun i wr => ∃ (k : Nat) (v : Value) (rg rc : Nat → Nat), k ≤ d ∧ i = .int .i64 k ∧ Hid (∀ i, i < k → F i (sp i) + x ≤ 1125899906842624) ∧ wr.heap[w.heap.size]? = some (.cells #[.int .i64 wd, .slice (some ⟨b, o, none⟩) d cc] 24 (0, 0)) ∧
      wr.heap[r]? = some (.cells #[.int .i64 0, .slice none 0 0] 24 (0, 0)) ∧ SkB wr w.heap.size q v k wd rg rc (fun i j => if j = sp i then F i j + x else F i j) ∧ Fr [] w wr) (fun i _ => d - (intOf i).toNat)
    case atStart => exact ⟨0, .slice none 0 0, fun _ => 0, fun _ => 0, by omega, rfl, Lib.hid (fun i hi => by omega), HF3.out.blk HQ0.out (by simp), HF3.out.blk HQ1.out (by simp), ⟨HNB.out, OwnF.nil _ _ _ _, fun i hi => by omega, hwq⟩, HF0.out.trans HF3.out (by simp)⟩
    case round =>
      clear HQ0 HQ1 HNB
      obtain ⟨k, v, rg, rc, hk, rfl, HMX, hb0, hbr, hB, hf⟩ := hrel
      have hsz := hf.size
      have HF := Lib.hid hf
      have HB := Lib.hid hB
      have HR := Lib.hid hbr
      have HB0 := Lib.hid hb0
      have c1 := blk_cell (v := .slice (some ⟨b, o, none⟩) d cc) hb0 1 rfl
      clear hf hbr hb0
      by_cases hlt : k < d
      · have hrow := HRR.out k hlt
        obtain ⟨b2, o2, c2, he2, _, _, _, hc2⟩ := hrow.shape (by omega)
        have k1 := HF.out.cell (HC.out k hlt) (by simp)
        rw [he2] at k1 hrow
        have hslk := HSL.out k hlt
        have HRK := Lib.hid (hrow.fr (HF.out.alloc (.cells #[] 3)) (by simp))
        have m1 := ((Fr.refl [] wr).alloc (.cells #[] 3)).cell c1 (by simp)
        have m2 := ((Fr.refl [] wr).alloc (.cells #[] 3)).cell k1 (by simp)
        clear hc2 he2 hrow hB
        have k0 : (0 : Int) ≤ (k : Int) := by omega
        have k3 : (k : Int) < (d : Int) := by omega
        go_wp2_with (at_builtin; refine wpList_app rfl (.tmp 29) (.tmp 34) 28 rfl 3 infoInt Tryd.underlying28 rfl (info_empty wr 3) rfl HRK.out rfl (fun _ _ => rfl) (by unfold maxLen; omega) (by omega) (by simp) ?_; intro v4 w4 ho4 hf4 hn4; rw [Nat.zero_add] at ho4; obtain ⟨g, cap, hv4, hg4, hr4⟩ := ho4.row (by omega); subst hv4; have HF4 := Lib.hid ((((Fr.refl [] wr).alloc _).trans hf4 (fun x hx => .inr (by simp [Value.ownBlock] at hx; omega)) : Fr [] wr w4)); have HR4 := Lib.hid (hr4.congr (f' := fun j => .int .i64 (F k j)) (fun j hj => by unfold app; rw [if_neg (by omega)]; simp)); have n0 := HF4.out.blk HB0.out (by simp); have n1 := blk_cell (v := .int .i64 wd) n0 0 rfl; have n2 := blk_cell (v := .slice (some ⟨b, o, none⟩) d cc) n0 1 rfl; clear ho4 hf4 hn4 hr4 n0)
        refine (HPL.out w4 (HF.out.trans HF4.out (by simp)) k hlt).mono ?_
        rintro e w5 ⟨rfl, hf5⟩
        have HF5 := Lib.hid (HF4.out.trans hf5 (by simp))
        have HR5 := Lib.hid (HR4.out.kept hf5 (by simp))
        clear c1 k1 m1 m2 n1 n2 hf5 HF4 HR4
        have hall := HOK.out.all k hlt (sp k) hslk
        have k4 := HR5.out.cell (sp k) hslk
        have k5 := HR5.out.frozen (sp k)
        have hst := HR5.out.stored (sp k) (.int .i64 (F k (sp k) + x))
        have HR6 := Lib.hid (show RowI (w5.setCell ⟨g, sp k, none⟩ (.int .i64 (F k (sp k) + x))) g wd cap (fun j => if j = sp k then F k j + x else F k j) from hst.congr (fun j hj => by
          by_cases h : j = sp k
          · simp [h]
          · simp [h]))
        have HF6 := Lib.hid (HF5.out.setCell (p := ⟨g, sp k, none⟩) (.inr hg4) (.int .i64 (F k (sp k) + x)))
        have k6 := blk_stay hst hslk
        clear hst
        have hslk2 : ((sp k : Nat) : Int) < (wd : Int) := by omega
        have HMXK := Lib.hid (show F k (sp k) + x ≤ 1125899906842624 → ∀ i, i < k + 1 → F i (sp i) + x ≤ 1125899906842624 from fun h i hi => by
          by_cases hik : i < k
          · exact HMX.out i hik
          · obtain rfl : i = k := by omega
            exact h)
        have HOV := Lib.hid (show ¬ F k (sp k) + x ≤ 1125899906842624 → z = 7 from fun h => by
          rcases HZ.out with ⟨h1, _⟩ | ⟨_, _, h1⟩ | ⟨_, h1, _⟩
          · exact absurd HX.out h1
          · exact h1
          · exact absurd (h1 k hlt) h)
        generalize hfv : F k (sp k) = fv at *
        clear hfv
        obtain ⟨av, cv, hav⟩ := HB.out.row.rd.slice
        subst hav
        by_cases hov : fv + x ≤ 1125899906842624
        · have F0 := Lib.hid (HF6.out.alloc (.cells #[.slice (some ⟨g, 0, none⟩) wd cap] 28))
          have HOW := Lib.hid (HB.out.row.kept F0.out (by simp))
          have HRW := Lib.hid (HR6.out.alloc (.cells #[.slice (some ⟨g, 0, none⟩) wd cap] 28))
          have hb6 := HF6.out.blk HB.out.blk (by simp)
          have x1 := blk_cell (v := .slice av k cv) hb6 1 rfl
          have hs6 := HF6.out.size
          have hml : k + 1 ≤ maxLen := by unfold maxLen; omega
          have HMX2 := Lib.hid (HMXK.out hov)
          have hgt : ¬ 1125899906842624 < fv + x := by omega
          have hba : w.heap.size ≤ ((w5.setCell ⟨g, sp k, none⟩ (.int .i64 (fv + x))).alloc (.cells #[.slice (some ⟨g, 0, none⟩) wd cap] 28)).heap.size := by have := F0.out.size; omega
          clear hb6
          go_wp2_with (at_builtin; refine wpList_app rfl (.tmp 54) (.tmp 56) 22 rfl 28 infoRow Tryd.underlying22 rfl HOW.out rfl (rd_one _ _ _ (by simp)) rfl (fun _ _ => rfl) hml (by omega) hba ?_; intro v1 w1 ho1 hf1 hn1; obtain ⟨a1, c1', hv1⟩ := ho1.rd.slice; subst hv1; have hgr := HB.out.grow HF.out F0.out HRW.out hg4 ho1 hf1; obtain ⟨⟨d1, d2⟩, d3, d4, d5⟩ := hgr; have HB1 := Lib.hid d3; have HF1 := Lib.hid d4; have HR1 := Lib.hid (d5 _ _ hqr HR.out); have HP1 := Lib.hid (d5 _ _ (by omega) HB0.out); clear hf1 hn1 ho1 d3 d4 d5)
          go_wp2
          go_roundw
          case rel => exact ⟨k + 1, _, _, _, by omega, by go_num, HMX2, HP1.out, HR1.out, HB1.out, HF1.out⟩
          case measure => simp [intOf]; omega
        · have hz7 := HOV.out hov
          have HZ7 := Lib.hid hz7
          have hbr6 := HF6.out.blk HR.out (by simp)
          obtain ⟨⟨x0, y0, x1, y1⟩, ⟨x2, y2⟩, x3, x4⟩ := two_store hbr6 (.int .i64 0) (.slice none 0 0)
          have hff : Fr [r] (w5.setCell ⟨g, sp k, none⟩ (.int .i64 (fv + x))) (((w5.setCell ⟨g, sp k, none⟩ (.int .i64 (fv + x))).setCell ⟨r, 0, none⟩ (.int .i64 0)).setCell ⟨r, 1, none⟩ (.slice none 0 0)) := ((Fr.refl [r] _).setCell (p := ⟨r, 0, none⟩) (by simp) _).setCell (p := ⟨r, 1, none⟩) (by simp) _
          have HFF := Lib.hid ((HF.out.trans HF6.out (S := []) (by simp)).trans hff (fun y hy => .inr (by simp at hy; omega)))
          have hgt : 1125899906842624 < fv + x := by omega
          clear hff hbr6 hz7
          go_wp2
          rw [HZ7.out]
          exact bodyPost_ret (v := .tuple #[.agg #[.int .i64 0, .slice none 0 0], .int .i64 7]) (by simp [results, Tryd.results13, go_sem, x3, x4]) rfl (SkOut.bad HFF.out (by decide))
      · obtain rfl : k = d := by omega
        have hz0 : z = 0 := by
          rcases HZ.out with ⟨h1, _⟩ | ⟨_, h1, _⟩ | ⟨_, _, h1⟩
          · exact absurd HX.out h1
          · exact absurd HMX.out h1
          · exact h1
        have HZ0 := Lib.hid hz0
        obtain ⟨av, cv, hav⟩ := hB.row.rd.slice
        subst hav
        obtain ⟨⟨x0, y0, x1, y1⟩, ⟨x2, y2⟩, x3, x4⟩ := two_store HR.out (.int .i64 wd) (.slice av k cv)
        have hff : Fr [r] wr ((wr.setCell ⟨r, 0, none⟩ (.int .i64 wd)).setCell ⟨r, 1, none⟩ (.slice av k cv)) := ((Fr.refl [r] wr).setCell (p := ⟨r, 0, none⟩) (by simp) _).setCell (p := ⟨r, 1, none⟩) (by simp) _
        have hrd : SkO ((wr.setCell ⟨r, 0, none⟩ (.int .i64 wd)).setCell ⟨r, 1, none⟩ (.slice av k cv)) w.heap.size (.slice av k cv) k wd (fun i j => if j = sp i then F i j + x else F i j) := by
          have hb' := hB
          refine ⟨rg, rc, hb'.row.kept hff (fun g hg hm => ?_), fun i hi => ⟨(hb'.all i hi).1, (hb'.all i hi).2.kept hff (fun hm => ?_)⟩⟩
          · simp only [List.mem_singleton] at hm
            subst hm
            exact hb'.row.apart HR.out (by decide) (by simp [hg])
          · simp only [List.mem_singleton] at hm
            exact (hb'.all i hi).2.apart HR.out (by decide) hm
        have d0 := blk_cell hB.blk 0 rfl
        have d1 := blk_cell hB.blk 1 rfl
        have HRD := Lib.hid hrd
        have HFF := Lib.hid (HF.out.trans hff (fun y hy => .inr (by simp at hy; omega)))
        clear hB hff hrd hz0
        go_wp2
        rw [HZ0.out]
        exact bodyPost_ret (v := .tuple #[.agg #[.int .i64 wd, .slice av k cv], .int .i64 0]) (by simp [results, Tryd.results13, go_sem, x3, x4]) rfl (SkOut.good HFF.out HRD.out)
  · have hz6 : z = 6 := by
      rcases HZ.out with ⟨_, h1⟩ | ⟨h1, _⟩ | ⟨h1, _⟩
      · exact h1
      · exact absurd h1 hx
      · exact absurd h1 hx
    have HZ6 := Lib.hid hz6
    have x3 := blk_cell (v := .int .i64 0) HQ1.out 0 rfl
    have x4 := blk_cell (v := .slice none 0 0) HQ1.out 1 rfl
    have hgg : x < 0 ∨ (0 ≤ x ∧ 1125899906842624 < x) := by omega
    clear hx hz6
    rcases hgg with h1 | ⟨h1, h2⟩
    all_goals
      go_enter Tryd.func13, Tryd.ntmps13
      go_wp2
      rw [HZ6.out]
      exact bodyPost_ret (v := .tuple #[.agg #[.int .i64 0, .slice none 0 0], .int .i64 6]) (by simp [results, Tryd.results13, go_sem, x3, x4]) rfl (SkOut.bad HF0.out (by decide))

end Go.Proofs.YtgpfkaiinbncnaaDoor
