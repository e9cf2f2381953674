/- SketchTells: Both of the reference. -/
import Derived.Test.YtgpfkaiinbncnaaDoorSkJoin
namespace Go.Proofs.YtgpfkaiinbncnaaDoor
open Go.RowKit

set_option maxHeartbeats 4000000 in
set_option maxRecDepth 100000 in
theorem both_ne (w : World) (wsa wsb : Int) (ra rb : Option Addr) (da db rcc rcb d' wd' : Nat) (G : Nat → Nat → Int) (hne : wsa ≠ wsb ∨ da ≠ db) (hda : da ≤ 140737488355328) (hdb : db ≤ 140737488355328) :
    Calls Tryd.prog 17 #[.agg #[.int .i64 wsa, .slice ra da rcc], .agg #[.int .i64 wsb, .slice rb db rcb]] w (SkOut w d' wd' G 6 (.int .i64 6)) := by
  have q0 := heap_alloc_new w (.cells #[.int .i64 wsa, .slice ra da rcc] 24)
  have q1 := heap_alloc_new (w.alloc (.cells #[.int .i64 wsa, .slice ra da rcc] 24)) (.cells #[.int .i64 wsb, .slice rb db rcb] 24)
  have q3 := heap_alloc_new ((w.alloc (.cells #[.int .i64 wsa, .slice ra da rcc] 24)).alloc (.cells #[.int .i64 wsb, .slice rb db rcb] 24)) (.cells #[.int .i64 0, .slice none 0 0] 24)
  have f1 := (Fr.refl [] (w.alloc (.cells #[.int .i64 wsa, .slice ra da rcc] 24))).alloc (.cells #[.int .i64 wsb, .slice rb db rcb] 24)
  have f3 := (Fr.refl [] ((w.alloc (.cells #[.int .i64 wsa, .slice ra da rcc] 24)).alloc (.cells #[.int .i64 wsb, .slice rb db rcb] 24))).alloc (.cells #[.int .i64 0, .slice none 0 0] 24)
  have HF4 := Lib.hid ((((Fr.refl [] w).alloc (.cells #[.int .i64 wsa, .slice ra da rcc] 24)).trans f1 (by simp)).trans f3 (by simp))
  have q0' := f3.blk (f1.blk q0 (by simp)) (by simp)
  have q1' := f3.blk q1 (by simp)
  simp only [World.size_alloc] at q1' q3
  have c0 := blk_cell (v := .int .i64 wsa) q0' 0 rfl
  have c1 := blk_cell (v := .slice ra da rcc) q0' 1 rfl
  have c2 := blk_cell (v := .int .i64 wsb) q1' 0 rfl
  have c3 := blk_cell (v := .slice rb db rcb) q1' 1 rfl
  have x3 := blk_cell (v := .int .i64 0) q3 0 rfl
  have x4 := blk_cell (v := .slice none 0 0) q3 1 rfl
  clear q0 q1 q3 f1 f3 q0' q1'
  by_cases hws : wsa = wsb
  · have hw1 : (wsa != wsb) = false := by simp [hws]
    have hd1 : ((da : Int) != (db : Int)) = true := by
      rcases hne with h | h
      · exact absurd hws h
      · simp; omega
    clear hws hne
    go_enter Tryd.func17, Tryd.ntmps17
    go_wp2
    exact bodyPost_ret (v := .tuple #[.agg #[.int .i64 0, .slice none 0 0], .int .i64 6]) (by simp [results, Tryd.results17, go_sem, x3, x4]) rfl (SkOut.bad HF4.out (by decide))
  · have hw1 : (wsa != wsb) = true := by simpa using hws
    clear hws hne
    go_enter Tryd.func17, Tryd.ntmps17
    go_wp2
    exact bodyPost_ret (v := .tuple #[.agg #[.int .i64 0, .slice none 0 0], .int .i64 6]) (by simp [results, Tryd.results17, go_sem, x3, x4]) rfl (SkOut.bad HF4.out (by decide))

set_option maxHeartbeats 4000000 in
set_option maxRecDepth 100000 in
theorem both_ref (w : World) (rv rvb : Value) (d wd : Nat) (F G : Nat → Nat → Int) (z : Int) (hs : SkF w rv d wd F) (hok : SkOk d wd F) (hsb : SkF w rvb d wd G) (hokb : SkOk d wd G) (hz : JoinZ d wd F G z) :
    Calls Tryd.prog 17 #[.agg #[.int .i64 wd, rv], .agg #[.int .i64 wd, rvb]] w (SkOut w d wd (fun i j => F i j + G i j) z (.int .i64 z)) := by
  obtain ⟨R, hr, hR⟩ := hs
  obtain ⟨Q, hq, hQ⟩ := hsb
  have hd := hok.deep
  have hw := hok.wide
  obtain ⟨b, o, cc, rfl, _, _, _, hc⟩ := hr.shape (by omega)
  obtain ⟨b', o', cc', rfl, _, _, _, hc'⟩ := hq.shape (by omega)
  have HC := Lib.hid hc
  have HC' := Lib.hid hc'
  have HRR := Lib.hid hR
  have HQQ := Lib.hid hQ
  have HOK := Lib.hid hok
  have HOKB := Lib.hid hokb
  have HZ := Lib.hid hz
  clear hc hc' hR hQ hr hq hok hokb hz
  have q0 := heap_alloc_new w (.cells #[.int .i64 wd, .slice (some ⟨b, o, none⟩) d cc] 24)
  have q1 := heap_alloc_new (w.alloc (.cells #[.int .i64 wd, .slice (some ⟨b, o, none⟩) d cc] 24)) (.cells #[.int .i64 wd, .slice (some ⟨b', o', none⟩) d cc'] 24)
  have q3 := heap_alloc_new ((w.alloc (.cells #[.int .i64 wd, .slice (some ⟨b, o, none⟩) d cc] 24)).alloc (.cells #[.int .i64 wd, .slice (some ⟨b', o', none⟩) d cc'] 24)) (.cells #[.int .i64 0, .slice none 0 0] 24)
  have f1 := (Fr.refl [] (w.alloc (.cells #[.int .i64 wd, .slice (some ⟨b, o, none⟩) d cc] 24))).alloc (.cells #[.int .i64 wd, .slice (some ⟨b', o', none⟩) d cc'] 24)
  have f3 := (Fr.refl [] ((w.alloc (.cells #[.int .i64 wd, .slice (some ⟨b, o, none⟩) d cc] 24)).alloc (.cells #[.int .i64 wd, .slice (some ⟨b', o', none⟩) d cc'] 24))).alloc (.cells #[.int .i64 0, .slice none 0 0] 24)
  have HF4 := Lib.hid ((((Fr.refl [] w).alloc (.cells #[.int .i64 wd, .slice (some ⟨b, o, none⟩) d cc] 24)).trans f1 (by simp)).trans f3 (by simp))
  have q0' := f3.blk (f1.blk q0 (by simp)) (by simp)
  have q1' := f3.blk q1 (by simp)
  simp only [World.size_alloc] at q1' q3
  have HQ0 := Lib.hid q0'
  have HQ1 := Lib.hid q1'
  have HQ3 := Lib.hid q3
  have c0 := blk_cell (v := .int .i64 wd) q0' 0 rfl
  have c1 := blk_cell (v := .slice (some ⟨b, o, none⟩) d cc) q0' 1 rfl
  have c2 := blk_cell (v := .int .i64 wd) q1' 0 rfl
  have c3 := blk_cell (v := .slice (some ⟨b', o', none⟩) d cc') q1' 1 rfl
  clear q0 q1 q3 f1 f3 q0' q1'
  have hww : ((wd : Int) != (wd : Int)) = false := by simp
  have hdd : ((d : Int) != (d : Int)) = false := by simp
  go_enter Tryd.func17, Tryd.ntmps17
  go_upto_region 3 with fail
  generalize ((w.alloc (.cells #[.int .i64 wd, .slice (some ⟨b, o, none⟩) d cc] 24)).alloc (.cells #[.int .i64 wd, .slice (some ⟨b', o', none⟩) d cc'] 24)).alloc (.cells #[.int .i64 0, .slice none 0 0] 24) = w2 at *
  have hsz0 := HF4.out.size
  obtain ⟨p0, hp0⟩ : ∃ p0, p0 = w.heap.size := ⟨_, rfl⟩
  obtain ⟨p1, hp1⟩ : ∃ p1, p1 = w.heap.size + 1 := ⟨_, rfl⟩
  obtain ⟨r, hr⟩ : ∃ r, r = w.heap.size + 1 + 1 := ⟨_, rfl⟩
  have hrl : p0 < w2.heap.size ∧ p1 < w2.heap.size ∧ r < w2.heap.size ∧ w.heap.size ≤ r := by
    have h0 := lt_of_blk HQ0.out
    have h1 := lt_of_blk HQ1.out
    have h3 := lt_of_blk HQ3.out
    omega
  rw [← hr, ← hp1, ← hp0]
  rw [← hr] at HQ3
  rw [← hp1] at HQ1 c2 c3
  have HQ0' : Hid (w2.heap[p0]? = some (.cells #[.int .i64 wd, .slice (some ⟨b, o, none⟩) d cc] 24 (0, 0))) := by rw [hp0]; exact HQ0
  have c0' : w2.cell? ⟨p0, 0, none⟩ = some (.int .i64 wd) := by rw [hp0]; exact c0
  have c1' : w2.cell? ⟨p0, 1, none⟩ = some (.slice (some ⟨b, o, none⟩) d cc) := by rw [hp0]; exact c1
  clear hr hp0 hp1 c0 c1 HQ0
  have HNB := Lib.hid (heap_alloc_new w2 (.cells #[.int .i64 wd, .slice none 0 0] 24))
  have HF3 := Lib.hid ((Fr.refl [] w2).alloc (.cells #[.int .i64 wd, .slice none 0 0] 24))
  go_wp2_with fail
  generalize w2.alloc (.cells #[.int .i64 wd, .slice none 0 0] 24) = w3 at *
  have hne : p0 ≠ w2.heap.size ∧ p1 ≠ w2.heap.size ∧ r ≠ w2.heap.size := by omega
  clear c0' c1' c2 c3
  generalize w2.heap.size = q at *
  go_loopw [7] (fun i wr => ∃ (k : Nat) (v : Value) (rg rc : Nat → Nat), k ≤ d ∧ i = .int .i64 k ∧ Hid (∀ i, i < k → ∀ j, j < wd → F i j + G i j ≤ 1125899906842624) ∧ wr.heap[p0]? = some (.cells #[.int .i64 wd, .slice (some ⟨b, o, none⟩) d cc] 24 (0, 0)) ∧
    wr.heap[p1]? = some (.cells #[.int .i64 wd, .slice (some ⟨b', o', none⟩) d cc'] 24 (0, 0)) ∧ wr.heap[r]? = some (.cells #[.int .i64 0, .slice none 0 0] 24 (0, 0)) ∧ SkB wr w.heap.size q v k wd rg rc (fun i j => F i j + G i j) ∧ Fr [] w wr) (fun i _ => d - (intOf i).toNat)
  case atStart => exact ⟨0, .slice none 0 0, fun _ => 0, fun _ => 0, by omega, rfl, Lib.hid (fun i hi => by omega), HF3.out.blk HQ0'.out (by simp), HF3.out.blk HQ1.out (by simp), HF3.out.blk HQ3.out (by simp), ⟨HNB.out, OwnF.nil _ _ _ _, fun i hi => by omega, hsz0⟩, HF4.out.trans HF3.out (by simp)⟩
  case round =>
    clear HQ0' HQ1 HQ3 HNB
    obtain ⟨k, v, rg, rc, hk, rfl, HMX, hb0, hb1, hbr, hB, hf⟩ := hrel
    have hsz := hf.size
    have HF := Lib.hid hf
    have HB := Lib.hid hB
    have HR := Lib.hid hbr
    have HB0 := Lib.hid hb0
    have HB1 := Lib.hid hb1
    have c1 := blk_cell (v := .slice (some ⟨b, o, none⟩) d cc) hb0 1 rfl
    clear hf hbr hb0 hb1
    by_cases hlt : k < d
    · have hrow := HRR.out k hlt
      obtain ⟨b2, o2, c2, he2, _, _, _, hc2⟩ := hrow.shape (by omega)
      have hrow' := HQQ.out k hlt
      obtain ⟨b3, o3, c3, he3, _, _, _, hc3⟩ := hrow'.shape (by omega)
      have HK1 := Lib.hid (show wr.cell? ⟨b, o + k, none⟩ = some (.slice (some ⟨b2, o2, none⟩) wd c2) by rw [← he2]; exact HF.out.cell (HC.out k hlt) (by simp))
      have HK2 := Lib.hid (show wr.cell? ⟨b', o' + k, none⟩ = some (.slice (some ⟨b3, o3, none⟩) wd c3) by rw [← he3]; exact HF.out.cell (HC'.out k hlt) (by simp))
      have HC2 := Lib.hid (fun j hj => HF.out.cell (hc2 j hj) (by simp))
      have HC3 := Lib.hid (fun j hj => HF.out.cell (hc3 j hj) (by simp))
      clear hc2 hc3 he2 he3 hrow hrow' hB
      have k0 : (0 : Int) ≤ (k : Int) := by omega
      have k3 : (k : Int) < (d : Int) := by omega
      go_wp2_with fail
      clear c1
      go_loopw [8, 9] (fun row j wx => ∃ t : Nat, t ≤ wd ∧ j = .int .i64 t ∧ OwnF wx wr.heap.size 3 row t (fun j => .int .i64 (F k j + G k j)) ∧ Hid (∀ j, j < t → F k j + G k j ≤ 1125899906842624) ∧ Fr [] wr wx) (fun _ j _ => wd - (intOf j).toNat)
      case atStart => exact ⟨0, by omega, rfl, OwnF.nil _ _ _ _, Lib.hid (fun j hj => by omega), Fr.refl _ _⟩
      case round =>
        rename World => wx
        obtain ⟨t, ht, rfl, ho, HGT, hfx⟩ := hrel
        have HO := Lib.hid ho
        have HFX := Lib.hid hfx
        have d0 := hfx.cell (blk_cell (v := .int .i64 wd) HB0.out 0 rfl) (by simp)
        have d1 := hfx.cell (blk_cell (v := .slice (some ⟨b, o, none⟩) d cc) HB0.out 1 rfl) (by simp)
        have d3 := hfx.cell (blk_cell (v := .slice (some ⟨b', o', none⟩) d cc') HB1.out 1 rfl) (by simp)
        have hsx := hfx.size
        by_cases htl : t < wd
        · have e1 := hfx.cell HK1.out (by simp)
          have e2 := hfx.cell (HC2.out t htl) (by simp)
          have e3 := hfx.cell HK2.out (by simp)
          have e4 := hfx.cell (HC3.out t htl) (by simp)
          have b1 := HOK.out.all k hlt t htl
          have b2 := HOKB.out.all k hlt t htl
          clear ho hfx
          have t0 : (0 : Int) ≤ (t : Int) := by omega
          have t3 : (t : Int) < (wd : Int) := by omega
          obtain ⟨av, cv, hav⟩ := HO.out.rd.slice
          subst hav
          by_cases hov : F k t + G k t ≤ 1125899906842624
          · have HGT2 := Lib.hid (show ∀ j, j < t + 1 → F k j + G k j ≤ 1125899906842624 from fun j hj => by
              by_cases hjt : j < t
              · exact HGT.out j hjt
              · obtain rfl : j = t := by omega
                exact hov)
            have hgt : ¬ 1125899906842624 < F k t + G k t := by omega
            go_wp2_with fail
            go_quiet (fail)
            have HO2 := Lib.hid (HO.out.kept (((Fr.refl [] wx).drewN nq).alloc (.cells #[.int .i64 (F k t + G k t)] 3)) (by simp))
            have hba : wr.heap.size ≤ ((wx.drewN nq).alloc (.cells #[.int .i64 (F k t + G k t)] 3)).heap.size := by have := (((Fr.refl [] wx).drewN nq).alloc (.cells #[.int .i64 (F k t + G k t)] 3)).size; omega
            go_wp2_with (at_builtin; refine wpList_app rfl (.tmp 62) (.tmp 64) 28 rfl 3 infoInt Tryd.underlying28 rfl HO2.out rfl (rd_one _ _ _ (by simp)) rfl (fun _ _ => rfl) (by unfold maxLen; omega) (by omega) hba ?_; intro v4 w4 ho4 hf4 hn4; have HO4 := Lib.hid (ho4.congr (f' := fun j => .int .i64 (F k j + G k j)) (fun j hj => by
                unfold app
                by_cases h : j < t
                · rw [if_pos h]
                · rw [if_neg h, show j = t by omega])); have HF4 := Lib.hid (((HFX.out.drewN nq).alloc _).trans hf4 (fun y hy => .inr (HO.out.ge y hy)) : Fr [] wr w4); clear ho4 hf4 hn4)
            go_wp2
            go_roundw
            case rel => exact ⟨t + 1, by omega, by go_num, HO4.out, HGT2, HF4.out⟩
            case measure => simp [intOf]; omega
          · have hz7 : z = 7 := by
              rcases HZ.out with ⟨h1, _⟩ | ⟨_, h1⟩
              · exact absurd (h1 k hlt t htl) hov
              · exact h1
            have HZ7 := Lib.hid hz7
            have hgt : 1125899906842624 < F k t + G k t := by omega
            clear hz7 hov
            go_wp2_with fail
            go_quiet (fail)
            have hbr6 := (HFX.out.drewN nq).blk HR.out (by simp)
            obtain ⟨⟨x0, y0, x5, y1⟩, ⟨x2, y2⟩, x3, x4⟩ := two_store hbr6 (.int .i64 0) (.slice none 0 0)
            have z0 := blk_frozen ((HFX.out).blk HR.out (by simp)) 0
            have z1 := blk_frozen ((HFX.out).blk HR.out (by simp)) 1
            have hff : Fr [r] (wx.drewN nq) (((wx.drewN nq).setCell ⟨r, 0, none⟩ (.int .i64 0)).setCell ⟨r, 1, none⟩ (.slice none 0 0)) := ((Fr.refl [r] _).setCell (p := ⟨r, 0, none⟩) (by simp) _).setCell (p := ⟨r, 1, none⟩) (by simp) _
            have HFF := Lib.hid ((HF.out.trans (HFX.out.drewN nq) (S := []) (by simp)).trans hff (fun y hy => .inr (by simp at hy; omega)))
            clear hff hbr6
            go_wp2
            rw [HZ7.out]
            exact bodyPost_ret (v := .tuple #[.agg #[.int .i64 0, .slice none 0 0], .int .i64 7]) (by simp [results, Tryd.results17, go_sem, x3, x4]) rfl (SkOut.bad HFF.out (by decide))
        · obtain rfl : t = wd := by omega
          obtain ⟨g, cap, hgv, hg4, hrg⟩ := ho.row (by omega)
          subst hgv
          have HRG := Lib.hid hrg
          obtain ⟨av, cv, hav⟩ := HB.out.row.rd.slice
          subst hav
          have F0 := Lib.hid (HFX.out.alloc (.cells #[.slice (some ⟨g, 0, none⟩) t cap] 28))
          have HOW := Lib.hid (HB.out.row.kept F0.out (by simp))
          have HRW := Lib.hid (HRG.out.alloc (.cells #[.slice (some ⟨g, 0, none⟩) t cap] 28))
          have x1 := blk_cell (v := .slice av k cv) (hfx.blk HB.out.blk (by simp)) 1 rfl
          have hml : k + 1 ≤ maxLen := by unfold maxLen; omega
          have HMX2 := Lib.hid (show ∀ i, i < k + 1 → ∀ j, j < t → F i j + G i j ≤ 1125899906842624 from fun i hi => by
            by_cases hik : i < k
            · exact HMX.out i hik
            · obtain rfl : i = k := by omega
              exact HGT.out)
          have hba : w.heap.size ≤ (wx.alloc (.cells #[.slice (some ⟨g, 0, none⟩) t cap] 28)).heap.size := by have := F0.out.size; omega
          have t3 : ¬ (t : Int) < (t : Int) := by omega
          clear ho hfx hrg
          go_wp2_with (at_builtin; refine wpList_app rfl (.tmp 67) (.tmp 69) 22 rfl 28 infoRow Tryd.underlying22 rfl HOW.out rfl (rd_one _ _ _ (by simp)) rfl (fun _ _ => rfl) hml (by omega) hba ?_; intro v1 w1 ho1 hf1 hn1; obtain ⟨a1, c1', hv1⟩ := ho1.rd.slice; subst hv1; have hgr := HB.out.grow HF.out F0.out HRW.out hg4 ho1 hf1; obtain ⟨⟨y1, y2⟩, y3, y4, y5⟩ := hgr; have HB2 := Lib.hid y3; have HF2 := Lib.hid y4; have HR1 := Lib.hid (y5 _ _ hne.2.2 HR.out); have HP0 := Lib.hid (y5 _ _ hne.1 HB0.out); have HP1 := Lib.hid (y5 _ _ hne.2.1 HB1.out); clear hf1 hn1 ho1 y3 y4 y5)
          go_wp2
          go_roundw
          case rel => exact ⟨k + 1, _, _, _, by omega, by go_num, HMX2, HP0.out, HP1.out, HR1.out, HB2.out, HF2.out⟩
          case measure => simp [intOf]; omega
    · obtain rfl : k = d := by omega
      have hz0 : z = 0 := by
        rcases HZ.out with ⟨_, h1⟩ | ⟨h1, _⟩
        · exact h1
        · exact absurd HMX.out h1
      have HZ0 := Lib.hid hz0
      obtain ⟨av, cv, hav⟩ := hB.row.rd.slice
      subst hav
      obtain ⟨⟨x0, y0, x1, y1⟩, ⟨x2, y2⟩, x3, x4⟩ := two_store HR.out (.int .i64 wd) (.slice av k cv)
      have hff : Fr [r] wr ((wr.setCell ⟨r, 0, none⟩ (.int .i64 wd)).setCell ⟨r, 1, none⟩ (.slice av k cv)) := ((Fr.refl [r] wr).setCell (p := ⟨r, 0, none⟩) (by simp) _).setCell (p := ⟨r, 1, none⟩) (by simp) _
      have hrd : SkO ((wr.setCell ⟨r, 0, none⟩ (.int .i64 wd)).setCell ⟨r, 1, none⟩ (.slice av k cv)) w.heap.size (.slice av k cv) k wd (fun i j => F i j + G i j) := by
        have hb' := hB
        refine ⟨rg, rc, hb'.row.kept hff (fun g hg hm => ?_), fun i hi => ⟨(hb'.all i hi).1, (hb'.all i hi).2.kept hff (fun hm => ?_)⟩⟩
        · simp only [List.mem_singleton] at hm
          subst hm
          exact hb'.row.apart HR.out (by decide) (by simp [hg])
        · simp only [List.mem_singleton] at hm
          exact (hb'.all i hi).2.apart HR.out (by decide) hm
      have d0 := blk_cell hB.blk 0 rfl
      have d1 := blk_cell hB.blk 1 rfl
      have HRD := Lib.hid hrd
      have HFF := Lib.hid (HF.out.trans hff (fun y hy => .inr (by simp at hy; omega)))
      clear hB hff hrd hz0
      go_wp2
      rw [HZ0.out]
      exact bodyPost_ret (v := .tuple #[.agg #[.int .i64 wd, .slice av k cv], .int .i64 0]) (by simp [results, Tryd.results17, go_sem, x3, x4]) rfl (SkOut.good HFF.out HRD.out)

end Go.Proofs.YtgpfkaiinbncnaaDoor
