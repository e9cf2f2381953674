/- cache.Get: the walk, one case (written by wip/bin/getsplit.py). -/
import Derived.Deep.MidRow
import Derived.Test.YtkdmkpdooiacaaaDoorZbase7
namespace Go.Proofs.YtkdmkpdooiacaaaDoor
open Go.RowKit

set_option maxHeartbeats 4000000 in
set_option maxRecDepth 100000 in
theorem get_early (w : World) (B : HB) (p : Nat) (n : Int) (v : Value) (l : List En) (q : Ms) (vq va vu vm : Value) (now : Int) (dob : Bool) (z : Int) (hC : Ca B w p n v l)
    (hq : MsOk B w q vq va vu vm) (hfs : FindSays q vq va vu vm dob z w) (hB : B.In w) (hnow : -9223372036854775808 ≤ now ∧ now ≤ 9223372036854775807) (hat0 : ∀ e ∈ l, 0 ≤ e.at_) (hkf : keyFault q z = 0) (hix : fIx (keyL (q.Q 0) q.h.rd dob) l < l.length) (hs0 : now < (l[fIx (keyL (q.Q 0) q.h.rd dob) l]'hix).at_) :
    Calls Tryd.prog 13 #[.pointer (some ⟨p, 0, none⟩), msgV q.h vq va vu vm, .int .i64 now] w fun e w' => GetGood w w' B p n v l q dob z now e := by
  have HKEY := Lib.hid (fun wx (h : Fr [] w wx) => key_any wx B q vq va vu vm dob z (hq.frH (h.hot0 B)) (hfs.fr h))
  have HQ := Lib.hid hq
  have HC := Lib.hid hC
  obtain ⟨_, g0⟩ := hq.hq
  obtain ⟨_, g1⟩ := hq.ha
  obtain ⟨_, g2⟩ := hq.hu
  obtain ⟨_, g3⟩ := hq.hm
  obtain ⟨qb0, qc0, rfl⟩ := g0.rd.slice
  obtain ⟨qb1, qc1, rfl⟩ := g1.rd.slice
  obtain ⟨qb2, qc2, rfl⟩ := g2.rd.slice
  obtain ⟨qb3, qc3, rfl⟩ := g3.rd.slice
  clear hq hfs hC g0 g1 g2 g3
  have HAT := Lib.hid hat0
  clear hat0
  unfold GetGood
  have hkl : 0 < (keyL (q.Q 0) q.h.rd dob).length := by unfold keyL; simp
  have HKG := Lib.hid (fun (w w' : World) (e : Ending) (h : KeyGood w w' q dob z e) => show ((keyFault q z = 0 ∧ ∃ v', e = .returned (.tuple #[v', .nilIface]) ∧ OwnB w' w.heap.size v' (keyL (q.Q 0) q.h.rd dob)) ∨ (keyFault q z ≠ 0 ∧ e = .returned (.tuple #[.slice none 0 0, .iface 25 (.int .i64 (keyFault q z))]))) ∧ Fr [] w w' from h)
  generalize keyL (q.Q 0) q.h.rd dob = K at *
  generalize keyFault q z = kf at *
  unfold msgV at HKEY
  unfold zMsg
  simp only [msgV]
  obtain ⟨qh, eqh⟩ : ∃ x, q.h = x := ⟨_, rfl⟩
  have HEQ := Lib.hid eqh
  rw [eqh] at HKEY
  rw [eqh]
  clear eqh
  obtain ⟨h0, h1, h2, h3, h4, h5, h6, h7, h8, h9, h10⟩ := qh
  go_enter Tryd.func13, Tryd.ntmps13
  go_wp2_with fail
  have HF2 := Lib.hid (show Fr [] w ((w.alloc (.cells #[.int .i64 h0, .bool h1, .int .i64 h2, .bool h3, .bool h4, .bool h5, .bool h6, .bool h7, .bool h8, .bool h9, .int .i64 h10, .slice qb0 q.qn qc0, .slice qb1 q.an qc1, .slice qb2 q.un qc2, .slice qb3 q.mn qc3] 43)).alloc (.cells #[.int .i64 0, .bool false, .int .i64 0, .bool false, .bool false, .bool false, .bool false, .bool false, .bool false, .bool false, .int .i64 0, .slice none 0 0, .slice none 0 0, .slice none 0 0, .slice none 0 0] 43)) from ((Fr.refl [] w).alloc _).alloc _)
  obtain ⟨hb0, hb1, hbs⟩ := two_new w (.cells #[.int .i64 h0, .bool h1, .int .i64 h2, .bool h3, .bool h4, .bool h5, .bool h6, .bool h7, .bool h8, .bool h9, .int .i64 h10, .slice qb0 q.qn qc0, .slice qb1 q.an qc1, .slice qb2 q.un qc2, .slice qb3 q.mn qc3] 43) (.cells #[.int .i64 0, .bool false, .int .i64 0, .bool false, .bool false, .bool false, .bool false, .bool false, .bool false, .bool false, .int .i64 0, .slice none 0 0, .slice none 0 0, .slice none 0 0, .slice none 0 0] 43)
  have HB0 := Lib.hid (fun (wx : World) (h : Fr [] ((w.alloc (.cells #[.int .i64 h0, .bool h1, .int .i64 h2, .bool h3, .bool h4, .bool h5, .bool h6, .bool h7, .bool h8, .bool h9, .int .i64 h10, .slice qb0 q.qn qc0, .slice qb1 q.an qc1, .slice qb2 q.un qc2, .slice qb3 q.mn qc3] 43)).alloc (.cells #[.int .i64 0, .bool false, .int .i64 0, .bool false, .bool false, .bool false, .bool false, .bool false, .bool false, .bool false, .int .i64 0, .slice none 0 0, .slice none 0 0, .slice none 0 0, .slice none 0 0] 43)) wx) => h.blk hb0 (by simp))
  have HB1 := Lib.hid (fun (wx : World) (h : Fr [] ((w.alloc (.cells #[.int .i64 h0, .bool h1, .int .i64 h2, .bool h3, .bool h4, .bool h5, .bool h6, .bool h7, .bool h8, .bool h9, .int .i64 h10, .slice qb0 q.qn qc0, .slice qb1 q.an qc1, .slice qb2 q.un qc2, .slice qb3 q.mn qc3] 43)).alloc (.cells #[.int .i64 0, .bool false, .int .i64 0, .bool false, .bool false, .bool false, .bool false, .bool false, .bool false, .bool false, .int .i64 0, .slice none 0 0, .slice none 0 0, .slice none 0 0, .slice none 0 0] 43)) wx) => h.blk hb1 (by simp))
  clear hb0 hb1
  generalize (w.alloc (.cells #[.int .i64 h0, .bool h1, .int .i64 h2, .bool h3, .bool h4, .bool h5, .bool h6, .bool h7, .bool h8, .bool h9, .int .i64 h10, .slice qb0 q.qn qc0, .slice qb1 q.an qc1, .slice qb2 q.un qc2, .slice qb3 q.mn qc3] 43)).alloc (.cells #[.int .i64 0, .bool false, .int .i64 0, .bool false, .bool false, .bool false, .bool false, .bool false, .bool false, .bool false, .int .i64 0, .slice none 0 0, .slice none 0 0, .slice none 0 0, .slice none 0 0] 43) = W2 at *
  refine (HKEY.out W2 HF2.out).mono ?_
  rintro e w2 hkg
  obtain ⟨hk, hf2⟩ := HKG.out _ _ _ hkg
  have HFW := Lib.hid (HF2.out.trans hf2 (by simp))
  have HFX := Lib.hid hf2
  clear hf2 hkg HKG HKEY
  rcases hk with ⟨hk0, v2, rfl, ho2⟩ | ⟨hk0, rfl⟩
  case inr => exact absurd hkf hk0
  have HK0 := Lib.hid hk0
  clear hk0
  obtain ⟨g, cap, rfl, hgB, hrow⟩ := OwnF.row ho2 hkl
  have hcv := run_convert_bytes_back (P := Tryd.prog) w2 35 9 5 ⟨g, 0, none⟩ cap K Tryd.underlying35 Tryd.underlying5 Tryd.underlying9 (fun j hj => by
    rw [addr_lit_add, Nat.zero_add, hrow.cell j hj]
    unfold u8V
    rw [List.getD_eq_getElem?_getD, List.getElem?_eq_getElem hj]
    rfl)
  rw [show (⟨K.toArray⟩ : ByteArray) = keyB K from rfl] at hcv
  have HFIND := Lib.hid (find_any w2 B p n v l K (HC.out.fr0 HFW.out))
  clear ho2 hrow
  have HKN := Lib.hid hkl
  clear hkl
  generalize hkb : keyB K = kb at *
  clear hkb
  go_wp2_with fail
  refine HFIND.out.mono ?_
  rintro e w3 ⟨rfl, hf3⟩
  have HFW3 := Lib.hid (HFW.out.trans hf3 (by simp))
  have HFX3 := Lib.hid (HFX.out.trans hf3 (by simp))
  clear hf3 hcv HFIND HFW HFX
  have hfi : fIx K l < l.length := hix
  have HHX := Lib.hid hix
  have HI := Lib.hid (show fI K l = (fIx K l : Int) by unfold fI; rw [if_pos hfi])
  rw [HI.out]
  clear HI
  have HC3 := Lib.hid (HC.out.fr0 HFW3.out)
  obtain ⟨F, hR⟩ := HC3.out.row
  obtain ⟨g2, cap2, rfl, hg2, hr3⟩ := hR.ho.row (by omega)
  have hgw : g2 < w.heap.size := by
    obtain ⟨F0, hR0⟩ := HC.out.row
    obtain ⟨g0, cap0, e0, _, hr0⟩ := hR0.ho.row (by omega)
    simp only [Value.slice.injEq, Option.some.injEq, Addr.mk.injEq] at e0
    obtain ⟨⟨rfl, _⟩, _⟩ := e0
    exact hr0.lt
  have hpw : p < w.heap.size := lt_of_blk HC.out.blk
  have hlen : l.length ≤ 64 := by have := HC.out.len; have := HC.out.n0; omega
  obtain ⟨ea, fa, ua, ma, ec, fc, uc, mc, hF, hms, hat, hlf⟩ := hR.at_ (fIx K l) hfi
  have hat0 := HAT.out _ (List.getElem_mem hfi)
  have HHF := Lib.hid hfi
  generalize hE : l[fIx K l] = E at *
  generalize hI : fIx K l = i at *
  have HRG := Lib.hid (show w3.rangeAt g2 (i * 18) [.string (keyB E.key), .int .i64 E.m.h.id, .bool E.m.h.an, .int .i64 E.m.h.op, .bool E.m.h.aa, .bool E.m.h.tc, .bool E.m.h.rd, .bool E.m.h.ra, .bool E.m.h.z, .bool E.m.h.ad, .bool E.m.h.cd, .int .i64 E.m.h.code, .slice ea E.m.qn ec, .slice fa E.m.an fc, .slice ua E.m.un uc, .slice ma E.m.mn mc, .int .i64 E.at_, .int .i64 E.life] from fun j u hj => by
    have hjl : j < 18 := (List.getElem?_eq_some_iff.1 hj).1
    rw [hr3.cell i j hfi hjl, hF j hjl]
    have h9 := enCs_get E (.slice ea E.m.qn ec) (.slice fa E.m.an fc) (.slice ua E.m.un uc) (.slice ma E.m.mn mc) j hjl
    rw [← h9]
    rw [← hj]
    unfold enCs
    simp)
  have HEE := Lib.hid hE
  have HII := Lib.hid hI
  clear hE hI
  have c0 := blk_cell HC3.out.blk 0 rfl
  have hp3 := lt_of_blk HC3.out.blk
  have hW3 : w.heap.size + 1 < w3.heap.size := lt_of_blk (HB1.out w3 HFX3.out)
  have hW0 : w.heap.size < w3.heap.size := by omega
  have hg3 : g2 < w3.heap.size := by omega
  have hi0 : (0 : Int) ≤ (i : Int) := by omega
  have hi1 : (i : Int) < (l.length : Int) := by have := HHF.out; omega
  have HMS := Lib.hid hms
  clear hms hF HC3 hr3 hR
  go_upto_region 7 with fail
  go_cut [12] (fun pe wx => pe = .pointer (some ⟨w3.heap.size, 0, none⟩) ∧ wx.heap[w3.heap.size]? = some (.cells #[.string (keyB E.key), .int .i64 E.m.h.id, .bool E.m.h.an, .int .i64 E.m.h.op, .bool E.m.h.aa, .bool E.m.h.tc, .bool E.m.h.rd, .bool E.m.h.ra, .bool E.m.h.z, .bool E.m.h.ad, .bool E.m.h.cd, .int .i64 E.m.h.code, .slice ea E.m.qn ec, .slice fa E.m.an fc, .slice ua E.m.un uc, .slice ma E.m.mn mc, .int .i64 E.at_, .int .i64 E.life] 88 (0, 0)) ∧ Fr [] w3 wx)
  case first =>
    go_wp2_with (first
      | (refine wpList_load_mid rfl 88 (.tmp 34) rfl g2 (i * 18) rfl [.string (keyB E.key), .int .i64 E.m.h.id, .bool E.m.h.an, .int .i64 E.m.h.op, .bool E.m.h.aa, .bool E.m.h.tc, .bool E.m.h.rd, .bool E.m.h.ra, .bool E.m.h.z, .bool E.m.h.ad, .bool E.m.h.cd, .int .i64 E.m.h.code, .slice ea E.m.qn ec, .slice fa E.m.an fc, .slice ua E.m.un uc, .slice ma E.m.mn mc, .int .i64 E.at_, .int .i64 E.life] _ HRG.out Tryd.underlying88 rfl (by kernel_rfl) ?_))
    go_meet
    exact ⟨rfl, heap_alloc_new w3 _, (Fr.refl [] w3).alloc _⟩
  case rest =>
    clear HRG c0
    obtain ⟨rfl, hE4, hf34⟩ := hcut
    have HFW4 := Lib.hid (HFW3.out.trans hf34 (by simp))
    have HFX4 := Lib.hid (HFX3.out.trans hf34 (by simp))
    have HE4 := Lib.hid hE4
    have HF34 := Lib.hid (hf34.hot0 B)
    have HBW := Lib.hid (HB1.out _ HFX4.out)
    have HQW := Lib.hid (HB0.out _ HFX4.out)
    have HBF := Lib.hid (setCells_all (w := wc) (p := w.heap.size + 1) [.int .i64 0, .bool false, .int .i64 0, .bool false, .bool false, .bool false, .bool false, .bool false, .bool false, .bool false, .int .i64 0, .slice none 0 0, .slice none 0 0, .slice none 0 0, .slice none 0 0] HBW.out rfl)
    have HFF := Lib.hid (setCells_fr (p := w.heap.size + 1) [.int .i64 0, .bool false, .int .i64 0, .bool false, .bool false, .bool false, .bool false, .bool false, .bool false, .bool false, .int .i64 0, .slice none 0 0, .slice none 0 0, .slice none 0 0, .slice none 0 0] 0 wc)
    have hfrt := front_any wc B p n (.slice (some ⟨g2, 0, none⟩) l.length cap2) l E ea fa ua ma ec fc uc mc (HC.out.fr0 HFW4.out) (HMS.out.frH HF34.out) hat hlf (Nat.le_trans hB.n HFW4.out.size)
    unfold enV at hfrt
    have HFRT := Lib.hid hfrt
    have HTD := Lib.hid (fun (wx : World) (h : FrH B w wx) (h3 : FrH B w3 wx) (age : Int) => told_any wx B q E.m _ _ _ _ _ _ _ _ age (HQ.out.frH h) (HMS.out.frH h3) (fun x hx => Nat.lt_of_lt_of_le (hB.s x hx) h.size))
    unfold msgV at HTD
    rw [HEQ.out] at HTD
    have HFRE := Lib.hid (show fresh now E = !(decide (now < E.at_) || decide (E.life ≤ now - E.at_)) from rfl)
    have hb3 : now - E.at_ ≤ 9223372036854775807 := by omega
    clear hfrt HC HAT HF2 HFW3 HFX3 hf34
    have hs1 : now < E.at_ := hs0
    clear hs0
    have HST := Lib.hid (show fresh now E = false by rw [HFRE.out, decide_eq_true hs1]; rfl)
    clear HFRT HTD HQ HMS HB0 HB1
    have k16 := blk_cell hE4 16 rfl
    have k17 := blk_cell hE4 17 rfl
    obtain ⟨n0, n1, n2, n3, n4, n5, n6, n7, n8, n9, n10, n11, n12, n13, n14⟩ := msg_cells (h := ⟨0, false, 0, false, false, false, false, false, false, false, 0⟩) HBW.out
    have hz : ∀ j, wc.frozen? ⟨w.heap.size + 1, j, none⟩ = false := fun j => blk_frozen HBW.out j
    clear hE4
    go_wp2_with fail
    change bodyPost _ _ _ _ _ (wc.setCells (w.heap.size + 1) 0 [.int .i64 0, .bool false, .int .i64 0, .bool false, .bool false, .bool false, .bool false, .bool false, .bool false, .bool false, .int .i64 0, .slice none 0 0, .slice none 0 0, .slice none 0 0, .slice none 0 0])
    generalize wc.setCells (w.heap.size + 1) 0 [.int .i64 0, .bool false, .int .i64 0, .bool false, .bool false, .bool false, .bool false, .bool false, .bool false, .bool false, .int .i64 0, .slice none 0 0, .slice none 0 0, .slice none 0 0, .slice none 0 0] = wF at *
    obtain ⟨r0, r1, r2, r3, r4, r5, r6, r7, r8, r9, r10, r11, r12, r13, r14⟩ := msg_cells (h := ⟨0, false, 0, false, false, false, false, false, false, false, 0⟩) HBF.out
    refine bodyPost_ret (v := .tuple #[.agg #[.int .i64 0, .bool false, .int .i64 0, .bool false, .bool false, .bool false, .bool false, .bool false, .bool false, .bool false, .int .i64 0, .slice none 0 0, .slice none 0 0, .slice none 0 0, .slice none 0 0], .bool false, .nilIface]) (by simp [results, Tryd.results13, go_sem, r0, r1, r2, r3, r4, r5, r6, r7, r8, r9, r10, r11, r12, r13, r14]) rfl ?_
    first | exact .inr (.inl ⟨HK0.out, (fun h => by rw [(get_congr HII.out h HHF.out).trans HEE.out]; exact HST.out), rfl, HFW4.out.trans HFF.out (fun x hx => by simp only [List.mem_singleton] at hx; exact .inr (by omega))⟩) | exact .inl ⟨(fun h => by rw [(get_congr HII.out h HHF.out).trans HEE.out]; exact HST.out), rfl, HFW4.out.trans HFF.out (fun x hx => by simp only [List.mem_singleton] at hx; exact .inr (by omega))⟩

end Go.Proofs.YtkdmkpdooiacaaaDoor
