/- cache.front: the walk, one case (written by wip/bin/frontsplit.py). -/
import Derived.Test.YtkdmkpdooiacaaaDoorZbase5
namespace Go.Proofs.YtkdmkpdooiacaaaDoor
open Go.RowKit

set_option maxHeartbeats 4000000 in
set_option maxRecDepth 100000 in
theorem front_new_room (w : World) (B : HB) (p : Nat) (n : Int) (v : Value) (l : List En) (e : En) (qa aa ua ma : Option Addr) (qc ac uc mc : Nat) (hC : Ca B w p n v l)
    (hm : MsOk B w e.m (.slice qa e.m.qn qc) (.slice aa e.m.an ac) (.slice ua e.m.un uc) (.slice ma e.m.mn mc)) (hat : -9223372036854775808 ≤ e.at_ ∧ e.at_ ≤ 9223372036854775807) (hlf : -9223372036854775808 ≤ e.life ∧ e.life ≤ 9223372036854775807) (hB : B ≤ w.heap.size) (hfi0 : ¬ fIx e.key l < l.length) (hmn0 : ((cutL e.key l).length : Int) + 1 ≤ n) :
    Calls Tryd.prog 28 #[.pointer (some ⟨p, 0, none⟩), enV e (.slice qa e.m.qn qc) (.slice aa e.m.an ac) (.slice ua e.m.un uc) (.slice ma e.m.mn mc)] w fun ed w' =>
      ed = .returned (.tuple #[]) ∧ ∃ v', Ca B w' p n v' (frL e n l) ∧ FrH B w w' ∧ Fr (p :: v.ownBlock.toList) w w' := by
  have HHFI := Lib.hid hfi0
  have HHMN := Lib.hid hmn0
  clear hfi0 hmn0
  have hFI := fun wx (h : Fr [] w wx) => find_any wx B p n v l e.key (hC.fr0 h)
  have HFI := Lib.hid hFI
  clear hFI
  have HC := Lib.hid hC
  have HMS := Lib.hid hm
  clear hC hm
  have hX := heap_alloc_new w (.cells (enCs e (.slice qa e.m.qn qc) (.slice aa e.m.an ac) (.slice ua e.m.un uc) (.slice ma e.m.mn mc)) 88)
  unfold enCs at hX
  have HX := Lib.hid hX
  have HF0 := Lib.hid (show Fr [] w (w.alloc (.cells (enCs e (.slice qa e.m.qn qc) (.slice aa e.m.an ac) (.slice ua e.m.un uc) (.slice ma e.m.mn mc)) 88)) from (Fr.refl [] w).alloc _)
  unfold enCs at HF0
  have HEK := Lib.hid (show e.key = e.key from rfl)
  unfold enV
  obtain ⟨key, ⟨⟨h0, h1, h2, h3, h4, h5, h6, h7, h8, h9, h10⟩, nq, Q, na, A, nu, U, nm, M⟩, at_, lf⟩ := e
  simp only at *
  go_enter Tryd.func28, Tryd.ntmps28
  go_wp2_with fail
  generalize (w.alloc (.cells #[.string (keyB key), .int .i64 h0, .bool h1, .int .i64 h2, .bool h3, .bool h4, .bool h5, .bool h6, .bool h7, .bool h8, .bool h9, .int .i64 h10, .slice qa nq qc, .slice aa na ac, .slice ua nu uc, .slice ma nm mc, .int .i64 at_, .int .i64 lf] 88)) = W1 at *
  refine (HFI.out W1 HF0.out).mono ?_
  rintro ed w2 ⟨rfl, hf2⟩
  have HF2 := Lib.hid (HF0.out.trans hf2 (by simp))
  have HX2 := Lib.hid (hf2.blk HX.out (by simp))
  have HC2 := Lib.hid (HC.out.fr0 HF2.out)
  clear hf2 hX HX HF0 HFI
  have HFI := Lib.hid (show fI key l = if fIx key l < l.length then (fIx key l : Int) else -1 from rfl)
  have HCUT := Lib.hid (show cutL key l = if fIx key l < l.length then l.eraseIdx (fIx key l) else l from rfl)
  have hpw : p < w.heap.size := lt_of_blk HC.out.blk
  go_upto_if 10 with fail
  go_cut [4] (fun _ wx => ∃ v2, Ca B wx p n v2 (cutL key l) ∧ wx.heap[w.heap.size]? = some (.cells #[.string (keyB key), .int .i64 h0, .bool h1, .int .i64 h2, .bool h3, .bool h4, .bool h5, .bool h6, .bool h7, .bool h8, .bool h9, .int .i64 h10, .slice qa nq qc, .slice aa na ac, .slice ua nu uc, .slice ma nm mc, .int .i64 at_, .int .i64 lf] 88 (0, 0)) ∧ FrH B w wx ∧ (∀ g, v2.ownBlock = some g → g ≠ w.heap.size) ∧ v2.ownBlock = v.ownBlock ∧ Fr (p :: v.ownBlock.toList) w wx)
  case first =>
    obtain ⟨F, hR⟩ := HC2.out.row
    by_cases hfi : fIx key l < l.length
    · exact absurd hfi HHFI.out
    · have e1 : fI key l = -1 := HFI.out.trans (if_neg hfi)
      have HL := Lib.hid (HCUT.out.trans (if_neg hfi))
      rw [e1]
      go_wp2_with fail
      go_meet
      refine ⟨v, by rw [HL.out]; exact HC2.out, HX2.out, HF2.out.hot0 B, (fun g hg => ?_), rfl, HF2.out.mono (fun x hx => by simp at hx)⟩
      obtain ⟨F0, hR0⟩ := HC.out.row
      have := hR0.ho.lt g (by simp [hg])
      omega
  case rest =>
    obtain ⟨v2, hC4, hX4, hf4, hv4, hve, hfr4⟩ := hcut
    obtain ⟨F, hR⟩ := hC4.row
    obtain ⟨a2, c2, rfl⟩ := hR.ho.rd.slice
    have hlen : (cutL key l).length ≤ 64 := by have := hC4.len; have := hC4.n0; omega
    have HC4 := Lib.hid hC4
    have HR := Lib.hid hR
    have HX4 := Lib.hid hX4
    have HF4 := Lib.hid hf4
    have HV4 := Lib.hid hv4
    have HVE := Lib.hid hve
    have HFR4 := Lib.hid hfr4
    clear hve hfr4
    have hpne : p ≠ w.heap.size := by omega
    have hpv : p ∉ (Value.ownBlock (.slice a2 (cutL key l).length c2)).toList := fun hm => HR.out.ho.apart HC4.out.blk (by decide) hm
    have HPV := Lib.hid hpv
    have hsz4 : w.heap.size ≤ wc.heap.size := HF4.out.size
    obtain ⟨xf, hxf⟩ : ∃ xf : Nat → Value, xf = enF ⟨key, ⟨⟨h0, h1, h2, h3, h4, h5, h6, h7, h8, h9, h10⟩, nq, Q, na, A, nu, U, nm, M⟩, at_, lf⟩ (.slice qa nq qc) (.slice aa na ac) (.slice ua nu uc) (.slice ma nm mc) := ⟨_, rfl⟩
    have HXF := Lib.hid hxf
    have HXG := Lib.hid (fun c (hc : c < 18) => show (#[.string (keyB key), .int .i64 h0, .bool h1, .int .i64 h2, .bool h3, .bool h4, .bool h5, .bool h6, .bool h7, .bool h8, .bool h9, .int .i64 h10, .slice qa nq qc, .slice aa na ac, .slice ua nu uc, .slice ma nm mc, .int .i64 at_, .int .i64 lf] : Array Value)[c]? = some (xf c) by rw [hxf]; exact enCs_get ⟨key, ⟨⟨h0, h1, h2, h3, h4, h5, h6, h7, h8, h9, h10⟩, nq, Q, na, A, nu, U, nm, M⟩, at_, lf⟩ _ _ _ _ c hc)
    have HXO := Lib.hid (fun c (hc : c < 18) => show (xf c).oneCell' = true by rw [hxf]; exact enF_one _ _ _ _ _ _ _ _ _ _ _ _ _ c hc)
    clear hxf
    have HIN := Lib.hid (fun (wz : World) (b : Nat) (hf : Fr [] wc wz) (hb : wz.heap[b]? = some (.cells #[.string (keyB key), .int .i64 h0, .bool h1, .int .i64 h2, .bool h3, .bool h4, .bool h5, .bool h6, .bool h7, .bool h8, .bool h9, .int .i64 h10, .slice qa nq qc, .slice aa na ac, .slice ua nu uc, .slice ma nm mc, .int .i64 at_, .int .i64 lf] 88 (0, 0))) (hle : wc.heap.size ≤ b) =>
      insert_en wz B (.slice a2 (cutL key l).length c2) (cutL key l).length F xf b (HR.out.ho.kept hf (fun _ _ => by simp)) (Nat.le_trans hB (Nat.le_trans hsz4 hf.size)) (by omega) (rowc_lit hb rfl HXG.out) (fun g hg => by have := HR.out.ho.lt g (by simp [hg]); omega) HXO.out (fun i c hi hc => (HR.out.at_ i hi).one c hc))
    have HEND := Lib.hid (fun (wz w5 : World) (a5 : Option Addr) (c5 : Nat) (hfz : Fr [] wc wz) (ho : OwnC w5 B 88 (.slice a5 ((cutL key l).length + 1) c5) 18 ((cutL key l).length + 1) (csC xf F)) (hf5 : Fr (Value.ownBlock (.slice a2 (cutL key l).length c2)).toList wz w5) =>
      show ∃ (a6 : Option Addr) (c6 : Nat) (F5 : Nat → Nat → Value), (w5.setCell ⟨p, 0, none⟩ (.slice a5 ((cutL key l).length + 1) c5)).heap[p]? = some (.cells #[.slice a6 ((cutL key l).length + 1) c6, .int .i64 n] 63 (0, 0)) ∧ EnRow B (w5.setCell ⟨p, 0, none⟩ (.slice a5 ((cutL key l).length + 1) c5)) (.slice a6 ((cutL key l).length + 1) c6) (⟨key, ⟨⟨h0, h1, h2, h3, h4, h5, h6, h7, h8, h9, h10⟩, nq, Q, na, A, nu, U, nm, M⟩, at_, lf⟩ :: cutL key l) F5 ∧ FrH B w (w5.setCell ⟨p, 0, none⟩ (.slice a5 ((cutL key l).length + 1) c5)) ∧ Fr (p :: v.ownBlock.toList) w (w5.setCell ⟨p, 0, none⟩ (.slice a5 ((cutL key l).length + 1) c5)) from by
      have hpf : Fr [p] w5 (w5.setCell ⟨p, 0, none⟩ (.slice a5 ((cutL key l).length + 1) c5)) := (Fr.refl _ _).setCell (.inl (by simp)) _
      have hb5 := hf5.blk (hfz.blk HC4.out.blk (by simp)) HPV.out
      have hh5 : FrH B wz w5 := hf5.hot B (fun x hx _ => (HR.out.ho.kept hfz (fun _ _ => by simp)).hotE x hx)
      have hh6 : FrH B w5 (w5.setCell ⟨p, 0, none⟩ (.slice a5 ((cutL key l).length + 1) c5)) := hpf.hot B (fun x hx _ => by
        simp only [List.mem_singleton] at hx
        subst hx
        exact hot_blk hb5 HC4.out.pB (by decide))
      have hhc : FrH B wc (w5.setCell ⟨p, 0, none⟩ (.slice a5 ((cutL key l).length + 1) c5)) := (hfz.hot0 B).trans (hh5.trans hh6)
      refine ⟨a5, c5, csC xf F, blk_setk hb5 0 _, ⟨ho.kept hpf (ho.ne_blk hb5 (by decide)), fun i hi => ?_⟩, HF4.out.trans hhc, ((HFR4.out.trans hfz (by simp)).trans hf5 (fun x hx => .inl (by rw [HVE.out] at hx; exact List.mem_cons_of_mem _ hx))).trans hpf (fun x hx => .inl (by simp only [List.mem_singleton] at hx; subst hx; simp))⟩
      rcases i with _ | i
      · refine ⟨qa, aa, ua, ma, qc, ac, uc, mc, fun c hc => ?_, HMS.out.frH (HF4.out.trans hhc), hat, hlf⟩
        show csC xf F 0 c = _
        unfold csC
        rw [if_pos rfl, HXF.out]
        rfl
      · have h9 := (HR.out.at_ i (by simpa using hi)).frH hhc
        have e9 : csC xf F (i + 1) = F i := by unfold csC; rw [if_neg (by omega), Nat.add_sub_cancel]
        rw [e9]
        exact h9)
    obtain ⟨e0, e1, e2, e3, e4, e5, e6, e7, e8, e9, e10, e11, e12, e13, e14, e15, e16, e17⟩ := en_cells hX4
    have c0 := blk_cell hC4.blk 0 rfl
    have c1 := blk_cell hC4.blk 1 rfl
    have z0 := blk_frozen hC4.blk 0
    have hplt := lt_of_blk hC4.blk
    have hxlt := lt_of_blk hX4
    have HN0 := Lib.hid HC4.out.n0
    have HPB := Lib.hid HC4.out.pB
    have HCELL := Lib.hid (fun (wz w5 : World) (hfz : Fr [] wc wz) (hf5 : Fr (Value.ownBlock (.slice a2 (cutL key l).length c2)).toList wz w5) => show w5.cell? ⟨p, 0, none⟩ = some (.slice a2 (cutL key l).length c2) ∧ w5.frozen? ⟨p, 0, none⟩ = false from
      ⟨blk_cell (hf5.blk (hfz.blk HC4.out.blk (by simp)) HPV.out) 0 rfl, blk_frozen (hf5.blk (hfz.blk HC4.out.blk (by simp)) HPV.out) 0⟩)
    clear hC4 hX4 hf4 hv4 hR hpv
    generalize (Value.agg #[.string (keyB key), .int .i64 h0, .bool h1, .int .i64 h2, .bool h3, .bool h4, .bool h5, .bool h6, .bool h7, .bool h8, .bool h9, .int .i64 h10, .slice qa nq qc, .slice aa na ac, .slice ua nu uc, .slice ma nm mc, .int .i64 at_, .int .i64 lf]) = EV
    generalize (Value.string (keyB key)) = y0 at *
    generalize (Value.int .i64 h0) = y1 at *
    generalize (Value.bool h1) = y2 at *
    generalize (Value.int .i64 h2) = y3 at *
    generalize (Value.bool h3) = y4 at *
    generalize (Value.bool h4) = y5 at *
    generalize (Value.bool h5) = y6 at *
    generalize (Value.bool h6) = y7 at *
    generalize (Value.bool h7) = y8 at *
    generalize (Value.bool h8) = y9 at *
    generalize (Value.bool h9) = y10 at *
    generalize (Value.int .i64 h10) = y11 at *
    generalize (Value.slice qa nq qc) = y12 at *
    generalize (Value.slice aa na ac) = y13 at *
    generalize (Value.slice ua nu uc) = y14 at *
    generalize (Value.slice ma nm mc) = y15 at *
    generalize (Value.int .i64 at_) = y16 at *
    generalize (Value.int .i64 lf) = y17 at *
    go_upto_region 4 with fail
    go_cut [] (fun wx => ∃ (a5 : Option Addr) (c5 : Nat) (F5 : Nat → Nat → Value), wx.heap[p]? = some (.cells #[.slice a5 ((cutL key l).length + 1) c5, .int .i64 n] 63 (0, 0)) ∧ EnRow B wx (.slice a5 ((cutL key l).length + 1) c5) (⟨key, ⟨⟨h0, h1, h2, h3, h4, h5, h6, h7, h8, h9, h10⟩, nq, Q, na, A, nu, U, nm, M⟩, at_, lf⟩ :: cutL key l) F5 ∧ FrH B w wx ∧ Fr (p :: v.ownBlock.toList) w wx)
    case first =>
      have HX5 := Lib.hid HX4.out
      have HRG := Lib.hid (fun (wx : World) (h : Fr [] wc wx) => en_range (cs := [y0, y1, y2, y3, y4, y5, y6, y7, y8, y9, y10, y11, y12, y13, y14, y15, y16, y17]) (h.blk HX5.out (by simp)))
      clear e0 e1 e2 e3 e4 e5 e6 e7 e8 e9 e10 e11 e12 e13 e14 e15 e16 e17
      clear HC4 HR HX4 HF4 HV4 HXF HXG HXO HMS HC
      have FZ : Fr [] wc ((wc.alloc (.cells #[y0, y1, y2, y3, y4, y5, y6, y7, y8, y9, y10, y11, y12, y13, y14, y15, y16, y17] 88)).drew) := ((Fr.refl [] _).alloc _).drew
      have BZ := Lib.hid (show ((wc.alloc (.cells #[y0, y1, y2, y3, y4, y5, y6, y7, y8, y9, y10, y11, y12, y13, y14, y15, y16, y17] 88)).drew).heap[wc.heap.size]? = some (.cells #[y0, y1, y2, y3, y4, y5, y6, y7, y8, y9, y10, y11, y12, y13, y14, y15, y16, y17] 88 (0, 0)) from heap_alloc_new wc _)
      have FZ := Lib.hid FZ
      refine wp_region_any (by kernel_rfl) ?_
      try (change wpAny _ _ _ _ _ _ _ (World.drew _))
      refine wpAny_take (i := 0) (v := ?_) rfl (by kernel_rfl) (by kernel_rfl) (by kernel_rfl) (fun _ _ _ h => h) (Or.inl ⟨by rfl, ?_⟩) ?_
      case refine_2 => (intro wq; go_simp; try (with_reducible rfl))
      try simp only [Act.put, List.setIfInBounds_toArray, List.set_cons_zero, List.set_cons_succ]
      refine wpAny_take (i := 1) (v := ?_) rfl (by kernel_rfl) (by kernel_rfl) (by kernel_rfl) (fun _ _ _ h => h) (Or.inl ⟨by rfl, ?_⟩) ?_
      case refine_2 => (intro wq; go_simp; try (with_reducible rfl))
      try simp only [Act.put, List.setIfInBounds_toArray, List.set_cons_zero, List.set_cons_succ]
      refine wpAny_take (i := 2) (v := ?_) rfl (by kernel_rfl) (by kernel_rfl) (by kernel_rfl) (fun _ _ _ h => h) (Or.inl ⟨by rfl, ?_⟩) ?_
      case refine_2 => (intro wq; go_simp; try (with_reducible rfl))
      try simp only [Act.put, List.setIfInBounds_toArray, List.set_cons_zero, List.set_cons_succ]
      refine wpAny_take (i := 3) (v := ?_) rfl (by kernel_rfl) (by kernel_rfl) (by kernel_rfl) (fun _ _ _ h => h) (Or.inl ⟨by rfl, ?_⟩) ?_
      case refine_2 => (intro wq; go_simp; try (with_reducible rfl))
      try simp only [Act.put, List.setIfInBounds_toArray, List.set_cons_zero, List.set_cons_succ]
      refine wpAny_ready (rs := [4, 5]) (by kernel_rfl) (by simp) ?_
      refine AllReady.cons rfl (fun K hK => ?_) (AllReady.cons rfl (fun K hK => ?_) AllReady.nil)
      rotate_left
      · (refine step_load_mid ?_ 88 (.tmp 3) ?_ w.heap.size 0 ?_ [y0, y1, y2, y3, y4, y5, y6, y7, y8, y9, y10, y11, y12, y13, y14, y15, y16, y17] _ (HRG.out _ ((Fr.refl [] _).drew)) Tryd.underlying88 ?_ ?_ ?_; rfl; rfl; rfl; rfl; kernel_rfl; refine hK _ _ ?_; clear hK K; try simp only [Act.put, List.setIfInBounds_toArray, List.set_cons_zero, List.set_cons_succ])
        refine wpAny_ready (rs := [4, 6]) (by kernel_rfl) (by simp) ?_
        refine AllReady.cons rfl (fun K hK => ?_) (AllReady.cons rfl (fun K hK => ?_) AllReady.nil)
        · go_simp
          refine hK _ _ ?_; clear hK K
          refine wpAny_ready (rs := [6]) (by kernel_rfl) (by simp) ?_
          refine AllReady.cons rfl (fun K hK => ?_) AllReady.nil
          go_simp
          refine hK _ _ ?_; clear hK K
          refine wpAny_ready (rs := [7]) (by kernel_rfl) (by simp) ?_
          refine AllReady.cons rfl (fun K hK => ?_) AllReady.nil
          go_simp
          go_wp2_with ((go_at_call 51; (with_reducible refine (HIN.out _ _ FZ.out BZ.out (Nat.le_refl _)).mono ?_); rintro ed w5 ⟨v5, rfl, ho5, hf5, _⟩; obtain ⟨a5, c5, rfl⟩ := ho5.rd.slice; obtain ⟨y0', y1'⟩ := HCELL.out _ _ FZ.out hf5))
          try (refine hK _ _ ?_; clear hK K)
          refine wpAny_take (i := 8) (v := ?_) rfl (by kernel_rfl) (by kernel_rfl) (by kernel_rfl) (fun _ _ _ h => h) (Or.inl ⟨by rfl, ?_⟩) ?_
          case refine_2 => (intro wq; go_simp; try (with_reducible rfl))
          try simp only [Act.put, List.setIfInBounds_toArray, List.set_cons_zero, List.set_cons_succ]
          refine wpAny_take (i := 9) (v := ?_) rfl (by kernel_rfl) (by kernel_rfl) (by kernel_rfl) (fun _ _ _ h => h) (Or.inl ⟨by rfl, ?_⟩) ?_
          case refine_2 => (intro wq; go_simp; try (with_reducible rfl))
          try simp only [Act.put, List.setIfInBounds_toArray, List.set_cons_zero, List.set_cons_succ]
          refine wpAny_ready (rs := [10]) (by kernel_rfl) (by simp) ?_
          refine AllReady.cons rfl (fun K hK => ?_) AllReady.nil
          go_simp
          refine hK _ _ ?_; clear hK K
          refine wpAny_done (by kernel_rfl) ?_ _
          all_goals go_wp2_with fail
          all_goals go_meet
          all_goals exact HEND.out _ _ _ _ FZ.out ho5 hf5
        · go_simp
          refine hK _ _ ?_; clear hK K
          refine wpAny_ready (rs := [4]) (by kernel_rfl) (by simp) ?_
          refine AllReady.cons rfl (fun K hK => ?_) AllReady.nil
          go_simp
          refine hK _ _ ?_; clear hK K
          refine wpAny_ready (rs := [7]) (by kernel_rfl) (by simp) ?_
          refine AllReady.cons rfl (fun K hK => ?_) AllReady.nil
          go_simp
          go_wp2_with ((go_at_call 51; (with_reducible refine (HIN.out _ _ FZ.out BZ.out (Nat.le_refl _)).mono ?_); rintro ed w5 ⟨v5, rfl, ho5, hf5, _⟩; obtain ⟨a5, c5, rfl⟩ := ho5.rd.slice; obtain ⟨y0', y1'⟩ := HCELL.out _ _ FZ.out hf5))
          try (refine hK _ _ ?_; clear hK K)
          refine wpAny_take (i := 8) (v := ?_) rfl (by kernel_rfl) (by kernel_rfl) (by kernel_rfl) (fun _ _ _ h => h) (Or.inl ⟨by rfl, ?_⟩) ?_
          case refine_2 => (intro wq; go_simp; try (with_reducible rfl))
          try simp only [Act.put, List.setIfInBounds_toArray, List.set_cons_zero, List.set_cons_succ]
          refine wpAny_take (i := 9) (v := ?_) rfl (by kernel_rfl) (by kernel_rfl) (by kernel_rfl) (fun _ _ _ h => h) (Or.inl ⟨by rfl, ?_⟩) ?_
          case refine_2 => (intro wq; go_simp; try (with_reducible rfl))
          try simp only [Act.put, List.setIfInBounds_toArray, List.set_cons_zero, List.set_cons_succ]
          refine wpAny_ready (rs := [10]) (by kernel_rfl) (by simp) ?_
          refine AllReady.cons rfl (fun K hK => ?_) AllReady.nil
          go_simp
          refine hK _ _ ?_; clear hK K
          refine wpAny_done (by kernel_rfl) ?_ _
          all_goals go_wp2_with fail
          all_goals go_meet
          all_goals exact HEND.out _ _ _ _ FZ.out ho5 hf5
      · go_simp
        refine hK _ _ ?_; clear hK K
        refine wpAny_ready (rs := [5]) (by kernel_rfl) (by simp) ?_
        refine AllReady.cons rfl (fun K hK => ?_) AllReady.nil
        (refine step_load_mid ?_ 88 (.tmp 3) ?_ w.heap.size 0 ?_ [y0, y1, y2, y3, y4, y5, y6, y7, y8, y9, y10, y11, y12, y13, y14, y15, y16, y17] _ (HRG.out _ ((Fr.refl [] _).drew)) Tryd.underlying88 ?_ ?_ ?_; rfl; rfl; rfl; rfl; kernel_rfl; refine hK _ _ ?_; clear hK K; try simp only [Act.put, List.setIfInBounds_toArray, List.set_cons_zero, List.set_cons_succ])
        refine wpAny_ready (rs := [6]) (by kernel_rfl) (by simp) ?_
        refine AllReady.cons rfl (fun K hK => ?_) AllReady.nil
        go_simp
        refine hK _ _ ?_; clear hK K
        refine wpAny_ready (rs := [7]) (by kernel_rfl) (by simp) ?_
        refine AllReady.cons rfl (fun K hK => ?_) AllReady.nil
        go_simp
        go_wp2_with ((go_at_call 51; (with_reducible refine (HIN.out _ _ FZ.out BZ.out (Nat.le_refl _)).mono ?_); rintro ed w5 ⟨v5, rfl, ho5, hf5, _⟩; obtain ⟨a5, c5, rfl⟩ := ho5.rd.slice; obtain ⟨y0', y1'⟩ := HCELL.out _ _ FZ.out hf5))
        try (refine hK _ _ ?_; clear hK K)
        refine wpAny_take (i := 8) (v := ?_) rfl (by kernel_rfl) (by kernel_rfl) (by kernel_rfl) (fun _ _ _ h => h) (Or.inl ⟨by rfl, ?_⟩) ?_
        case refine_2 => (intro wq; go_simp; try (with_reducible rfl))
        try simp only [Act.put, List.setIfInBounds_toArray, List.set_cons_zero, List.set_cons_succ]
        refine wpAny_take (i := 9) (v := ?_) rfl (by kernel_rfl) (by kernel_rfl) (by kernel_rfl) (fun _ _ _ h => h) (Or.inl ⟨by rfl, ?_⟩) ?_
        case refine_2 => (intro wq; go_simp; try (with_reducible rfl))
        try simp only [Act.put, List.setIfInBounds_toArray, List.set_cons_zero, List.set_cons_succ]
        refine wpAny_ready (rs := [10]) (by kernel_rfl) (by simp) ?_
        refine AllReady.cons rfl (fun K hK => ?_) AllReady.nil
        go_simp
        refine hK _ _ ?_; clear hK K
        refine wpAny_done (by kernel_rfl) ?_ _
        all_goals go_wp2_with fail
        all_goals go_meet
        all_goals exact HEND.out _ _ _ _ FZ.out ho5 hf5
    case rest =>
      obtain ⟨a5, c5, F5, hb5, hr5, hf5, hfr5⟩ := hcut
      have HFR5 := Lib.hid hfr5
      clear hfr5
      have HB5 := Lib.hid hb5
      have HR5 := Lib.hid hr5
      have HF5 := Lib.hid hf5
      have HL5 := Lib.hid (show (cutL key l).length ≤ l.length from cutL_len key l)
      have HLN := Lib.hid HC.out.len
      have d0 := blk_cell hb5 0 rfl
      have d1 := blk_cell hb5 1 rfl
      have zz0 := blk_frozen hb5 0
      clear hb5 hr5 hf5 HC4 HR HX4 HV4 HIN HEND HCELL e0 e1 e2 e3 e4 e5 e6 e7 e8 e9 e10 e11 e12 e13 e14 e15 e16 e17 c0 c1 z0
      obtain ⟨L, hL⟩ : ∃ L, (cutL key l).length = L := ⟨_, rfl⟩
      have HLL := Lib.hid hL
      rw [hL] at d0 HB5 HR5
      have hcap : L + 1 ≤ c5 := by
        rcases HR5.out.ho with ⟨h, _⟩ | ⟨g, cap, h, _, hr⟩
        · simp at h
        · simp only [Value.slice.injEq, true_and] at h
          have := hr.le
          simp only [List.length_cons] at this
          omega
      have hn1 := HN0.out.1
      have hn2 := HN0.out.2
      have hL64 : L ≤ 64 := by omega
      have HFIN := Lib.hid (fun (m : Nat) (hm : m ≤ L + 1) (hmn : (m : Int) ≤ n) (hfr : frL ⟨key, ⟨⟨h0, h1, h2, h3, h4, h5, h6, h7, h8, h9, h10⟩, nq, Q, na, A, nu, U, nm, M⟩, at_, lf⟩ n l = (⟨key, ⟨⟨h0, h1, h2, h3, h4, h5, h6, h7, h8, h9, h10⟩, nq, Q, na, A, nu, U, nm, M⟩, at_, lf⟩ :: cutL key l).take m) =>
        show ∃ v', Ca B ((wc.setCell ⟨p, 0, none⟩ (.slice a5 m c5)).drew) p n v' (frL ⟨key, ⟨⟨h0, h1, h2, h3, h4, h5, h6, h7, h8, h9, h10⟩, nq, Q, na, A, nu, U, nm, M⟩, at_, lf⟩ n l) ∧ FrH B w ((wc.setCell ⟨p, 0, none⟩ (.slice a5 m c5)).drew) ∧ Fr (p :: v.ownBlock.toList) w ((wc.setCell ⟨p, 0, none⟩ (.slice a5 m c5)).drew) from by
        have hpf : Fr [p] wc ((wc.setCell ⟨p, 0, none⟩ (.slice a5 m c5)).drew) := ((Fr.refl [p] wc).setCell (p := ⟨p, 0, none⟩) (.inl (by simp)) _).drew
        have hh : FrH B wc ((wc.setCell ⟨p, 0, none⟩ (.slice a5 m c5)).drew) := hpf.hot B (fun x hx _ => by
          simp only [List.mem_singleton] at hx
          subst hx
          exact hot_blk HB5.out HPB.out (by decide))
        have hlen1 : ((⟨key, ⟨⟨h0, h1, h2, h3, h4, h5, h6, h7, h8, h9, h10⟩, nq, Q, na, A, nu, U, nm, M⟩, at_, lf⟩ :: cutL key l).take m).length = m := by rw [List.length_take, List.length_cons, HLL.out]; omega
        refine ⟨.slice a5 m c5, ⟨blk_setk HB5.out 0 _, HPB.out, ⟨F5, ?_⟩, ?_, HN0.out⟩, HF5.out.trans hh, HFR5.out.trans hpf (fun x hx => .inl (by simp only [List.mem_singleton] at hx; subst hx; simp))⟩
        · rw [hfr]
          refine ⟨?_, fun i hi => ?_⟩
          · rw [hlen1]
            have ho := HR5.out.ho
            rcases ho with ⟨h, _⟩ | ⟨g, cap, h, hg, hr⟩
            · simp at h
            · simp only [Value.slice.injEq, true_and] at h
              obtain ⟨rfl, _, hc⟩ := h
              subst hc
              have hr2 := hr.kept hpf (by
                simp only [List.mem_singleton]
                intro e
                subst e
                obtain ⟨cur, e1, _⟩ := hr
                rw [HB5.out] at e1
                simp at e1)
              exact .inr ⟨g, c5, rfl, hg, hr2.take m (by rw [List.length_cons, HLL.out]; exact hm)⟩
          · rw [List.getElem_take]
            rw [hlen1] at hi
            exact (HR5.out.at_ i (by rw [List.length_cons, HLL.out]; omega)).frH hh
        · rw [hfr, hlen1]
          exact hmn)
      by_cases hmn : (L : Int) + 1 ≤ n
      · have HT := Lib.hid (HFIN.out (L + 1) (Nat.le_refl _) (by omega) (by
          show (⟨key, ⟨⟨h0, h1, h2, h3, h4, h5, h6, h7, h8, h9, h10⟩, nq, Q, na, A, nu, U, nm, M⟩, at_, lf⟩ :: cutL key l).take n.toNat = _
          rw [List.take_of_length_le (by rw [List.length_cons, hL]; omega), List.take_of_length_le (by rw [List.length_cons, hL]; omega)]))
        clear hL HFIN
        have hmn2 : min ((L : Int) + 1) n = (L : Int) + 1 := by omega
        go_wp2_with fail
        go_region
        all_goals go_wp2_with fail
        all_goals (refine bodyPost_end (results_none rfl _ _ _) rfl ?_)
        all_goals exact ⟨rfl, HT.out⟩
      · exact absurd (by rw [← hL]; exact HHMN.out) hmn

end Go.Proofs.YtkdmkpdooiacaaaDoor
