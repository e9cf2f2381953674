/- cache.aged: the walk. -/
import Derived.Test.YtkdmkpdooiacaaaDoorZbase1
namespace Go.Proofs.YtkdmkpdooiacaaaDoor
open Go.RowKit

set_option maxHeartbeats 4000000 in
set_option maxRecDepth 100000 in
theorem aged_any (w : World) (B : HB) (a : Option Addr) (n c : Nat) (R : Nat → Rs) (F : Nat → Nat → Value) (age : Int) (more : Bool) (hS : Sec B w (.slice a n c) n R F) :
    Calls Tryd.prog 54 #[.slice a n c, .int .i64 age, .bool more] w fun e w' => ∃ v' G, e = .returned v' ∧ OwnC w' w.heap.size 60 v' 5 n G ∧ (∀ i, i < n → RsOwn w' w.heap.size (G i) (agR age more (R i))) ∧ Fr [] w w' := by
  have hnb := hS.nb
  have HS := Lib.hid hS; clear hS
  go_enter Tryd.func54, Tryd.ntmps54
  go_wp2
  go_loopw [7, 12] (fun vo vi wr => ∃ (k : Nat) (G : Nat → Nat → Value), k ≤ n ∧ vi = .int .i64 k ∧ OwnC wr w.heap.size 60 vo 5 k G ∧ (∀ i, i < k → RsOwn wr w.heap.size (G i) (agR age more (R i))) ∧ Fr [] w wr) (fun _ vi _ => n - (intOf vi).toNat)
  case atStart => exact ⟨0, fun _ _ => .bool false, by omega, rfl, .inl ⟨rfl, rfl⟩, fun i hi => by omega, Fr.refl _ _⟩
  case round =>
    obtain ⟨k, G, hk, rfl, ho, hown, hf⟩ := hrel
    have HO := Lib.hid ho; clear ho
    have HOW := Lib.hid hown; clear hown
    have HF := Lib.hid hf; clear hf
    by_cases hlt : k < n
    · obtain ⟨b1, o1, c1, he1, hn1, hm1, _, hc1⟩ := HS.out.rd.shape (by omega) (by decide)
      simp only [Value.slice.injEq, true_and] at he1
      obtain ⟨rfl, rfl⟩ := he1
      clear hn1 hm1
      obtain ⟨na, nc, da, dc, hF, hok⟩ := HS.out.at_ k hlt
      have hwf := HS.out.wf k hlt
      have k1 := HF.out.cell (hc1 k 0 hlt (by decide)) (by simp)
      have k2 := HF.out.cell (hc1 k 1 hlt (by decide)) (by simp)
      have k3 := HF.out.cell (hc1 k 2 hlt (by decide)) (by simp)
      have k4 := HF.out.cell (hc1 k 3 hlt (by decide)) (by simp)
      have k5 := HF.out.cell (hc1 k 4 hlt (by decide)) (by simp)
      rw [hF 0 (by decide)] at k1
      rw [hF 1 (by decide)] at k2
      rw [hF 2 (by decide)] at k3
      rw [hF 3 (by decide)] at k4
      rw [hF 4 (by decide)] at k5
      simp only [Rs.F, Nat.add_zero] at k1 k2 k3 k4 k5
      clear hc1 hF
      have HCS := Lib.hid (fun (wx : World) (h : Fr [] w wx) => clone_strs wx (.slice na (R k).nl nc) (R k).nl (R k).nm (hok.rdn.fr h (fun _ _ _ _ => by simp)) hwf.nlb)
      have HCB := Lib.hid (fun (wx : World) (h : Fr [] w wx) => clone_bytes wx (.slice da (R k).dl dc) (R k).dl (R k).dt (hok.rdd.fr h (fun _ _ _ _ => by simp)) hwf.dlb)
      clear hok hwf
      have k0 : (0 : Int) ≤ (k : Int) := by omega
      have k9 : (k : Int) < (n : Int) := by omega
      obtain ⟨r, hr⟩ : ∃ r, R k = r := ⟨_, rfl⟩
      have HRK := Lib.hid hr
      rw [hr] at HCS HCB k1 k2 k3 k4 k5
      clear hr
      have HSZ := Lib.hid (show w.heap.size ≤ wr.heap.size from HF.out.size)
      go_upto_region 5 with fail
      go_cut [9] (fun p wx => ∃ b vn vd, p = .pointer (some ⟨b, 0, none⟩) ∧ wx.heap[b]? = some (.cells #[vn, .int .i64 r.ty, .int .i64 r.cl, .int .i64 r.tt, vd] 60 (0, 0)) ∧ wr.heap.size ≤ b ∧ OwnF wx w.heap.size 9 vn r.nl (fun j => .string (r.nm j)) ∧ OwnF wx w.heap.size 5 vd r.dl (fun j => .int .u8 (r.dt j)) ∧ Fr [] wr wx)
      case first =>
        have FWA : Fr [] w (wr.alloc (.cells #[.slice na r.nl nc, .int .i64 r.ty, .int .i64 r.cl, .int .i64 r.tt, .slice da r.dl dc] 60)) := HF.out.alloc _
        have FRA := Lib.hid (show Fr [] wr (wr.alloc (.cells #[.slice na r.nl nc, .int .i64 r.ty, .int .i64 r.cl, .int .i64 r.tt, .slice da r.dl dc] 60)) from (Fr.refl _ _).alloc _)
        have HBA := Lib.hid (heap_alloc_new wr (.cells #[.slice na r.nl nc, .int .i64 r.ty, .int .i64 r.cl, .int .i64 r.tt, .slice da r.dl dc] 60))
        have HCEL := Lib.hid (fun (wx : World) (h : Fr [] (wr.alloc (.cells #[.slice na r.nl nc, .int .i64 r.ty, .int .i64 r.cl, .int .i64 r.tt, .slice da r.dl dc] 60)) wx) =>
          show wx.cell? ⟨wr.heap.size, 0, none⟩ = some (.slice na r.nl nc) ∧ wx.cell? ⟨wr.heap.size, 4, none⟩ = some (.slice da r.dl dc) ∧ wx.frozen? ⟨wr.heap.size, 0, none⟩ = false ∧ wx.frozen? ⟨wr.heap.size, 4, none⟩ = false from
          ⟨blk_cell (h.blk HBA.out (by simp)) 0 rfl, blk_cell (h.blk HBA.out (by simp)) 4 rfl, blk_frozen (h.blk HBA.out (by simp)) 0, blk_frozen (h.blk HBA.out (by simp)) 4⟩)
        have HQ := Lib.hid (show wr.heap.size < (wr.alloc (.cells #[.slice na r.nl nc, .int .i64 r.ty, .int .i64 r.cl, .int .i64 r.tt, .slice da r.dl dc] 60)).heap.size by simp)
        have HSW := Lib.hid (show w.heap.size ≤ wr.heap.size from HSZ.out)
        generalize wr.alloc (.cells #[.slice na r.nl nc, .int .i64 r.ty, .int .i64 r.cl, .int .i64 r.tt, .slice da r.dl dc] 60) = wA at *
        have FD0 : Fr [] wA wA.drew := (Fr.refl [] wA).drew
        obtain ⟨z0, z4, z5, z6⟩ := HCEL.out _ FD0
        go_region_with
          (first
            | (go_at_call 53; (with_reducible refine (HCS.out _ (Fr.trans FWA (by first | exact FD0 | assumption) (by simp))).mono ?_); rintro e5 wx1 ⟨v', rfl, hov1, hfx1⟩; have hov1 := hov1.mono (B' := wA.heap.size) (Fr.size (S := []) (by first | exact FD0 | assumption)); have hA1 : Fr [] wA wx1 := Fr.trans (by first | exact FD0 | assumption) hfx1 (by simp); obtain ⟨z0, z4, z5, z6⟩ := HCEL.out _ hA1; obtain ⟨a5, c5, rfl⟩ := hov1.rd.slice)
            | (go_at_call 40; (with_reducible refine (HCB.out _ (Fr.trans FWA (by first | exact FD0 | assumption) (by simp))).mono ?_); rintro e5 wx2 ⟨v', rfl, hov2, hfx2⟩; have hov2 := hov2.mono (B' := wA.heap.size) (Fr.size (S := []) (by first | exact FD0 | assumption)); have hA2 : Fr [] wA wx2 := Fr.trans (by first | exact FD0 | assumption) hfx2 (by simp); obtain ⟨z0, z4, z5, z6⟩ := HCEL.out _ hA2; obtain ⟨a5, c5, rfl⟩ := hov2.rd.slice)
            | fail)
        all_goals go_wp2_with fail
        all_goals go_meet
        all_goals first
          | exact ⟨_, _, _, rfl, blk_set5a (hA2.blk HBA.out (by simp)) _ _, Nat.le_refl _, (own_fin (hov1.kept hfx2 (fun _ _ => by simp)) HQ.out (set_fr _ _ _ _)).mono (Nat.le_trans HSW.out (Nat.le_of_lt HQ.out)), (own_fin hov2 HQ.out (set_fr _ _ _ _)).mono (Nat.le_trans HSW.out (Nat.le_of_lt HQ.out)), (FRA.out.trans hA2 (by simp)).trans (set_fr _ _ _ _) (by simp)⟩
          | exact ⟨_, _, _, rfl, blk_set5a (hA1.blk HBA.out (by simp)) _ _, Nat.le_refl _, (own_fin hov1 HQ.out (set_fr _ _ _ _)).mono (Nat.le_trans HSW.out (Nat.le_of_lt HQ.out)), (own_fin (hov2.kept hfx1 (fun _ _ => by simp)) HQ.out (set_fr _ _ _ _)).mono (Nat.le_trans HSW.out (Nat.le_of_lt HQ.out)), (FRA.out.trans hA1 (by simp)).trans (set_fr _ _ _ _) (by simp)⟩
      case rest =>
        obtain ⟨b, vn, vd, rfl, hblk, hbw, hon, hod, hfc⟩ := hcut
        have HON := Lib.hid hon
        have HOD := Lib.hid hod
        have HFC := Lib.hid hfc
        have HBLK := Lib.hid hblk
        obtain ⟨a5, c5, rfl⟩ := hon.rd.slice
        obtain ⟨a6, c6, rfl⟩ := hod.rd.slice
        have x0 := blk_cell hblk 0 rfl
        have x1 := blk_cell hblk 1 rfl
        have x2 := blk_cell hblk 2 rfl
        have x3 := blk_cell hblk 3 rfl
        have x4 := blk_cell hblk 4 rfl
        have x5 := blk_frozen hblk 3
        have x6 := lt_of_blk hblk
        clear hblk hon hod hfc
        have HOC := Lib.hid (HO.out.kept HFC.out (fun _ _ => by simp))
        have HOWC := Lib.hid (fun i hi => (HOW.out i hi).fr0 HFC.out)
        clear k1 k2 k3 k4 k5
        have HAG := Lib.hid (show ∀ r', agR age more r' = if more = true ∧ r'.ty = 41 then r' else { r' with tt := wrap64 (r'.tt - age) } from fun _ => rfl)
        by_cases hmt : more = true ∧ r.ty = 41
        · obtain ⟨rfl, h41⟩ := hmt
          have hne : (r.ty != 41) = false := by simp [h41]
          have HFX := Lib.hid (HF.out.trans HFC.out (by simp))
          have HSX := Lib.hid (show w.heap.size ≤ wc.heap.size from HFX.out.size)
          have HOX := Lib.hid HOC.out
          have HOWX := Lib.hid HOWC.out
          have HNEW := Lib.hid (fun (wx : World) (h : Fr [] wc wx) => show RsOwn wx w.heap.size (f5 (.slice a5 r.nl c5) (.int .i64 r.ty) (.int .i64 r.cl) (.int .i64 r.tt) (.slice a6 r.dl c6)) (agR age true r) by
            rw [HAG.out, if_pos ⟨rfl, h41⟩]
            exact ⟨_, _, rfl, rfl, rfl, rfl, rfl, HON.out.kept h (fun _ _ => by simp), HOD.out.kept h (fun _ _ => by simp)⟩)
          clear h41
          go_wp2_with (at_builtin; refine wpList_appC rfl (.tmp 36) (.tmp 38) 41 rfl 60 infoRec Tryd.underlying41 rfl (by decide) (f5_one a5 a6 r.nl c5 r.dl c6 r.ty r.cl r.tt) (HOX.out.kept ((Fr.refl [] _).alloc _) (fun _ _ => by simp)) rfl (rdc_five _ _ _ _ _ _ _ rfl trivial) rfl (by unfold maxLen; omega) (by omega) (HFX.out.alloc _).size ?_; intro v7 w7 ho7 hf7 _)
          have HO7 := Lib.hid ho7
          have HF7 := Lib.hid hf7
          clear ho7 hf7
          go_roundw
          case rel =>
            refine ⟨k + 1, _, by omega, by go_num, HO7.out, fun i hi => ?_, ?_⟩
            · unfold appC
              by_cases hik : i < k
              · rw [if_pos hik]
                exact (((HOWX.out i hik).fr0 ((Fr.refl [] _).alloc _)).kept HF7.out (HOX.out.kept ((Fr.refl [] _).alloc _) (fun _ _ => by simp)))
              · rw [if_neg hik, show i = k by omega, HRK.out]
                exact (HNEW.out _ ((Fr.refl [] _).alloc _)).kept HF7.out (HOX.out.kept ((Fr.refl [] _).alloc _) (fun _ _ => by simp))
            · exact (HFX.out.alloc _).trans HF7.out (fun x hx => .inr (HOX.out.ge x hx))
          case measure => simp [intOf]; omega
        · have hor : more = false ∨ more = true ∧ (r.ty != 41) = true := by
            cases more
            · exact .inl rfl
            · exact .inr ⟨rfl, by simp only [bne_iff_ne, ne_eq]; exact fun h => hmt ⟨rfl, h⟩⟩
          have HFW := Lib.hid (show Fr [b] wc (wc.setCell ⟨b, 3, none⟩ (.int .i64 (wrap64 (r.tt - age)))) from (Fr.refl [b] wc).setCell (p := ⟨b, 3, none⟩) (.inl (by simp)) _)
          have HF1 := Lib.hid ((HFC.out.mono (S' := [b]) (fun x hx => by simp at hx)).trans HFW.out (fun x hx => .inl hx))
          have HFX := Lib.hid (HF.out.trans HF1.out (fun x hx => by simp only [List.mem_singleton] at hx; have := HSZ.out; exact .inr (by omega)))
          have HSX := Lib.hid (show w.heap.size ≤ (wc.setCell ⟨b, 3, none⟩ (.int .i64 (wrap64 (r.tt - age)))).heap.size from HFX.out.size)
          have HOX := Lib.hid (HO.out.kept HF1.out (fun g hg => by have := HO.out.lt g (by simp [hg]); simp; omega))
          have HOWX := Lib.hid (fun i (hi : i < k) => (HOW.out i hi).keptB HF1.out hbw)
          have HNEW := Lib.hid (fun (wx : World) (h : Fr [] (wc.setCell ⟨b, 3, none⟩ (.int .i64 (wrap64 (r.tt - age)))) wx) => show RsOwn wx w.heap.size (f5 (.slice a5 r.nl c5) (.int .i64 r.ty) (.int .i64 r.cl) (.int .i64 (wrap64 (r.tt - age))) (.slice a6 r.dl c6)) (agR age more r) by
            rw [HAG.out, if_neg hmt]
            exact ⟨_, _, rfl, rfl, rfl, rfl, rfl, (HON.out.kept HFW.out (HON.out.ne_blk HBLK.out (by decide))).kept h (fun _ _ => by simp), (HOD.out.kept HFW.out (HOD.out.ne_blk HBLK.out (by decide))).kept h (fun _ _ => by simp)⟩)
          clear hmt
          rcases hor with rfl | ⟨rfl, hne⟩
          · go_wp2_with (at_builtin; refine wpList_appC rfl (.tmp 36) (.tmp 38) 41 rfl 60 infoRec Tryd.underlying41 rfl (by decide) (f5_one a5 a6 r.nl c5 r.dl c6 r.ty r.cl (wrap64 (r.tt - age))) (HOX.out.kept ((Fr.refl [] _).alloc _) (fun _ _ => by simp)) rfl (rdc_five _ _ _ _ _ _ _ (set_size _ _ _) trivial) rfl (by unfold maxLen; omega) (by omega) (HFX.out.alloc _).size ?_; intro v7 w7 ho7 hf7 _)
            have HO7 := Lib.hid ho7
            have HF7 := Lib.hid hf7
            clear ho7 hf7
            go_roundw
            case rel =>
              refine ⟨k + 1, _, by omega, by go_num, HO7.out, fun i hi => ?_, ?_⟩
              · unfold appC
                by_cases hik : i < k
                · rw [if_pos hik]
                  exact (((HOWX.out i hik).fr0 ((Fr.refl [] _).alloc _)).kept HF7.out (HOX.out.kept ((Fr.refl [] _).alloc _) (fun _ _ => by simp)))
                · rw [if_neg hik, show i = k by omega, HRK.out]
                  exact (HNEW.out _ ((Fr.refl [] _).alloc _)).kept HF7.out (HOX.out.kept ((Fr.refl [] _).alloc _) (fun _ _ => by simp))
              · exact (HFX.out.alloc _).trans HF7.out (fun x hx => .inr (HOX.out.ge x hx))
            case measure => simp [intOf]; omega
          · go_wp2_with (at_builtin; refine wpList_appC rfl (.tmp 36) (.tmp 38) 41 rfl 60 infoRec Tryd.underlying41 rfl (by decide) (f5_one a5 a6 r.nl c5 r.dl c6 r.ty r.cl (wrap64 (r.tt - age))) (HOX.out.kept ((Fr.refl [] _).alloc _) (fun _ _ => by simp)) rfl (rdc_five _ _ _ _ _ _ _ (set_size _ _ _) trivial) rfl (by unfold maxLen; omega) (by omega) (HFX.out.alloc _).size ?_; intro v7 w7 ho7 hf7 _)
            have HO7 := Lib.hid ho7
            have HF7 := Lib.hid hf7
            clear ho7 hf7
            go_roundw
            case rel =>
              refine ⟨k + 1, _, by omega, by go_num, HO7.out, fun i hi => ?_, ?_⟩
              · unfold appC
                by_cases hik : i < k
                · rw [if_pos hik]
                  exact (((HOWX.out i hik).fr0 ((Fr.refl [] _).alloc _)).kept HF7.out (HOX.out.kept ((Fr.refl [] _).alloc _) (fun _ _ => by simp)))
                · rw [if_neg hik, show i = k by omega, HRK.out]
                  exact (HNEW.out _ ((Fr.refl [] _).alloc _)).kept HF7.out (HOX.out.kept ((Fr.refl [] _).alloc _) (fun _ _ => by simp))
              · exact (HFX.out.alloc _).trans HF7.out (fun x hx => .inr (HOX.out.ge x hx))
            case measure => simp [intOf]; omega
    · obtain rfl : k = n := by omega
      go_wp2
      go_ret
      exact ⟨_, _, rfl, HO.out, HOW.out, HF.out⟩

end Go.Proofs.YtkdmkpdooiacaaaDoor
