/- cache.Key at a message with one good question. -/
import Derived.Test.YtkdmkpdooiacaaaDoorZbase2
namespace Go.Proofs.YtkdmkpdooiacaaaDoor
open Go.RowKit

theorem row_five {w : World} {x0 x1 x2 x3 x4 : Value} {E : TypeId} {b : Nat} (hb : w.heap.size = b) (f : Nat → Value) (h0 : f 0 = x0) (h1 : f 1 = x1) (h2 : f 2 = x2) (h3 : f 3 = x3) (h4 : f 4 = x4) :
    RdF (w.alloc (.cells #[x0, x1, x2, x3, x4] E)) (.slice (some ⟨b, 0, none⟩) 5 5) 5 f := by
  subst hb
  exact (row_lit w #[x0, x1, x2, x3, x4] E 5 f rfl (by decide) (fun j hj => match j, hj with
    | 0, _ => by rw [h0]; rfl
    | 1, _ => by rw [h1]; rfl
    | 2, _ => by rw [h2]; rfl
    | 3, _ => by rw [h3]; rfl
    | 4, _ => by rw [h4]; rfl)).rd

theorem u8_div {x : Int} (h0 : 0 ≤ x) (h1 : x ≤ 65535) : Value.int .u8 (x / 256) = u8V (UInt8.ofNat (x.toNat / 256)) := by
  unfold u8V
  congr 1
  simp
  omega

theorem u8_mod {x : Int} (h0 : 0 ≤ x) : Value.int .u8 (x % 256) = u8V (UInt8.ofNat (x.toNat % 256)) := by
  unfold u8V
  congr 1
  simp
  omega

set_option maxHeartbeats 4000000 in
set_option maxRecDepth 100000 in
theorem key_opt (w : World) (B : HB) (m : Ms) (vq va vu vm : Value) (dob : Bool) (z : Int) (hm : MsOk B w m vq va vu vm) (hq : m.qn = 1) (hz : nmFault (m.Q 0).nl (m.Q 0).nm = 0) (hr : (m.Q 0).ok)
    (hfs : FindSays m vq va vu vm dob z w) (hz1 : z ≠ 0) :
    Calls Tryd.prog 8 #[msgV m.h vq va vu vm] w fun e w' => e = .returned (.tuple #[.slice none 0 0, .iface 25 (.int .i64 z)]) ∧ Fr [] w w' := by
  obtain ⟨F, hQ⟩ := hm.hq
  rw [hq] at hQ
  obtain ⟨b1, o1, c1, rfl, hn1, hm1, hb1, hc1⟩ := hQ.rd.shape (by decide) (by decide)
  obtain ⟨na, nc, hF, hrn, hcd⟩ := hQ.at_ 0 (by decide)
  have hwf := hQ.wf 0 (by decide)
  have k1 := hc1 0 0 (by decide) (by decide)
  have k2 := hc1 0 1 (by decide) (by decide)
  have k3 := hc1 0 2 (by decide) (by decide)
  rw [hF 0 (by decide)] at k1
  rw [hF 1 (by decide)] at k2
  rw [hF 2 (by decide)] at k3
  simp only [Qs.F, Nat.add_zero, Nat.zero_mul] at k1 k2 k3
  clear hc1 hF hn1 hm1 hQ hm
  unfold FindSays at hfs
  generalize m.Q 0 = q at *
  generalize m.h = h at *
  have HFD := Lib.hid (fun wx (hx : Fr [] w wx) => fold_any wx na q.nl nc q.nm (hrn.fr hx (fun _ _ _ _ => by simp)) hwf.nms hwf.nlb)
  have HWB := Lib.hid (fun wx a c (hx : RdF wx (.slice a q.nl c) q.nl (fun j => .string (smB (q.nm j)))) => wireWrite_ok wx a q.nl c (fun j => smB (q.nm j)) hx (fun j hj => by rw [smB_size]; exact hwf.nms j hj) (by rw [nmFault_sm]; exact hz))
  clear hwf hrn hcd hz
  have HKQ := Lib.hid (keyW_q w h (.slice (some ⟨b1, o1, none⟩) 1 c1) va vu vm (.slice na q.nl nc) q.ty q.cl)
  have HKM := Lib.hid (keyW_msg w h (.slice (some ⟨b1, o1, none⟩) 1 c1) va vu vm (.slice na q.nl nc) q.ty q.cl)
  unfold Qs.ok at hr
  obtain ⟨t0, t1, t2, t3⟩ := hr
  have HV := Lib.hid (show erVn z = .iface 25 (.int .i64 z) by unfold erVn; rw [if_neg hz1])
  have HFS := Lib.hid hfs
  clear hfs hz1
  generalize q.ty = ty at *
  generalize q.cl = cl at *
  unfold msgV at HFS
  unfold msgV
  obtain ⟨id, an, op, aa, tc, rd, ra, hz', ad, cd, code⟩ := h
  simp only at HFS HKQ HKM
  go_enter Tryd.func8, Tryd.ntmps8
  go_wp2_with fail
  refine (HFD.out _ (((Fr.refl [] w).alloc _).alloc _)).mono ?_
  rintro e w1 ⟨v1, rfl, ho1, hf1⟩
  obtain ⟨a1, c1', rfl⟩ := ho1.rd.slice
  go_wp2_with fail
  refine (HWB.out _ _ _ ho1.rd).mono ?_
  rintro e w2 ⟨v2, rfl, ho2, hf2⟩
  have HF2 := Lib.hid ((((Fr.refl [] w).alloc _).alloc _).trans (hf1.trans hf2 (by simp)) (by simp))
  have e1 := blk_cell ((hf1.trans hf2 (by simp)).blk HKQ.out (by simp)) 1 rfl
  have e2 := blk_cell ((hf1.trans hf2 (by simp)).blk HKQ.out (by simp)) 2 rfl
  obtain ⟨m0, m1, m2, m3, m4, m5, m6, m7, m8, m9, m10, m11, m12, m13, m14⟩ := msg_cells (h := ⟨id, an, op, aa, tc, rd, ra, hz', ad, cd, code⟩) ((hf1.trans hf2 (by simp)).blk HKM.out (by simp))
  clear ho1 hf1 ho2 hf2
  go_wp2_with fail
  refine (HFS.out _ HF2.out).mono ?_
  rintro e w3 ⟨⟨sz, co, ve, zz, has, oa, on, oc, rfl⟩, hf3⟩
  rw [HV.out]
  have HF3 := Lib.hid (HF2.out.trans hf3 (by simp))
  clear hf3
  clear m0 m1 m2 m3 m4 m5 m6 m7 m8 m9 m10 m11 m12 m13 m14 e1 e2
  go_wp2
  go_ret2
  exact ⟨rfl, HF3.out.alloc _⟩

set_option maxHeartbeats 4000000 in
set_option maxRecDepth 100000 in
theorem key_ok (w : World) (B : HB) (m : Ms) (vq va vu vm : Value) (dob : Bool) (hm : MsOk B w m vq va vu vm) (hq : m.qn = 1) (hz : nmFault (m.Q 0).nl (m.Q 0).nm = 0) (hr : (m.Q 0).ok)
    (hfs : FindSays m vq va vu vm dob 0 w) :
    Calls Tryd.prog 8 #[msgV m.h vq va vu vm] w fun e w' => ∃ v', e = .returned (.tuple #[v', .nilIface]) ∧ OwnB w' w.heap.size v' (keyL (m.Q 0) m.h.rd dob) ∧ Fr [] w w' := by
  obtain ⟨F, hQ⟩ := hm.hq
  rw [hq] at hQ
  obtain ⟨b1, o1, c1, rfl, hn1, hm1, hb1, hc1⟩ := hQ.rd.shape (by decide) (by decide)
  obtain ⟨na, nc, hF, hrn, hcd⟩ := hQ.at_ 0 (by decide)
  have hwf := hQ.wf 0 (by decide)
  have k1 := hc1 0 0 (by decide) (by decide)
  have k2 := hc1 0 1 (by decide) (by decide)
  have k3 := hc1 0 2 (by decide) (by decide)
  rw [hF 0 (by decide)] at k1
  rw [hF 1 (by decide)] at k2
  rw [hF 2 (by decide)] at k3
  simp only [Qs.F, Nat.add_zero, Nat.zero_mul] at k1 k2 k3
  clear hc1 hF hn1 hm1 hQ hm
  unfold FindSays at hfs
  generalize m.Q 0 = q at *
  generalize m.h = h at *
  have HFD := Lib.hid (fun wx (hx : Fr [] w wx) => fold_any wx na q.nl nc q.nm (hrn.fr hx (fun _ _ _ _ => by simp)) hwf.nms hwf.nlb)
  have HWB := Lib.hid (fun wx a c (hx : RdF wx (.slice a q.nl c) q.nl (fun j => .string (smB (q.nm j)))) => wireWrite_ok wx a q.nl c (fun j => smB (q.nm j)) hx (fun j hj => by rw [smB_size]; exact hwf.nms j hj) (by rw [nmFault_sm]; exact hz))
  have HLN := Lib.hid (show (wireL (fun j => smB (q.nm j)) q.nl ++ [0]).length ≤ 256 by
    rw [← nmFault_sm] at hz
    obtain ⟨_, _, h255⟩ := nmFault_ok hz
    obtain ⟨_, hl⟩ := nsz_len h255
    simp
    omega)
  clear hwf hrn hcd hz
  have HKQ := Lib.hid (keyW_q w h (.slice (some ⟨b1, o1, none⟩) 1 c1) va vu vm (.slice na q.nl nc) q.ty q.cl)
  have HKM := Lib.hid (keyW_msg w h (.slice (some ⟨b1, o1, none⟩) 1 c1) va vu vm (.slice na q.nl nc) q.ty q.cl)
  have HKS := Lib.hid (keyW_size w h (.slice (some ⟨b1, o1, none⟩) 1 c1) va vu vm (.slice na q.nl nc) q.ty q.cl)
  unfold Qs.ok at hr
  obtain ⟨t0, t1, t2, t3⟩ := hr
  have HFS := Lib.hid hfs
  have HV := Lib.hid (show erVn 0 = .nilIface from rfl)
  clear hfs
  have HK := Lib.hid (show keyL q h.rd dob = wireL (fun j => smB (q.nm j)) q.nl ++ [0] ++ [UInt8.ofNat (q.ty.toNat / 256), UInt8.ofNat (q.ty.toNat % 256), UInt8.ofNat (q.cl.toNat / 256), UInt8.ofNat (q.cl.toNat % 256), xByte h.rd dob] from rfl)
  generalize wireL (fun j => smB (q.nm j)) q.nl ++ [0] = L at *
  rw [HK.out]
  generalize q.ty = ty at *
  generalize q.cl = cl at *
  clear HK
  have HT1 := Lib.hid (u8_div t0 t1)
  have HT2 := Lib.hid (u8_mod t0)
  have HT3 := Lib.hid (u8_div t2 t3)
  have HT4 := Lib.hid (u8_mod t2)
  generalize UInt8.ofNat (ty.toNat / 256) = y1 at *
  generalize UInt8.ofNat (ty.toNat % 256) = y2 at *
  generalize UInt8.ofNat (cl.toNat / 256) = y3 at *
  generalize UInt8.ofNat (cl.toNat % 256) = y4 at *
  unfold msgV at HFS
  unfold msgV
  obtain ⟨id, an, op, aa, tc, rd, ra, hz', ad, cd, code⟩ := h
  simp only at HFS HKQ HKM HKS
  go_enter Tryd.func8, Tryd.ntmps8
  go_wp2_with fail
  refine (HFD.out _ (((Fr.refl [] w).alloc _).alloc _)).mono ?_
  rintro e w1 ⟨v1, rfl, ho1, hf1⟩
  obtain ⟨a1, c1', rfl⟩ := ho1.rd.slice
  go_wp2_with fail
  refine (HWB.out _ _ _ ho1.rd).mono ?_
  rintro e w2 ⟨v2, rfl, ho2, hf2⟩
  have HF2 := Lib.hid ((((Fr.refl [] w).alloc _).alloc _).trans (hf1.trans hf2 (by simp)) (by simp))
  have HBQ := Lib.hid ((hf1.trans hf2 (by simp)).blk HKQ.out (by simp))
  have HBM := Lib.hid ((hf1.trans hf2 (by simp)).blk HKM.out (by simp))
  have HO2 := Lib.hid (OwnF.mono ho2 (show w.heap.size ≤ w1.heap.size from Nat.le_trans (by simp; omega) hf1.size))
  have e1 := blk_cell HBQ.out 1 rfl
  have e2 := blk_cell HBQ.out 2 rfl
  obtain ⟨m0, m1, m2, m3, m4, m5, m6, m7, m8, m9, m10, m11, m12, m13, m14⟩ := msg_cells (h := ⟨id, an, op, aa, tc, rd, ra, hz', ad, cd, code⟩) HBM.out
  clear ho1 hf1 ho2 hf2
  go_wp2_with fail
  refine (HFS.out _ HF2.out).mono ?_
  rintro e w3 ⟨⟨sz, co, ve, zz, has, oa, on, oc, rfl⟩, hf3⟩
  rw [HV.out]
  clear m0 m1 m2 m3 m4 m5 m6 m7 m8 m9 m10 m11 m12 m13 m14 e1 e2
  have HF3 := Lib.hid (HF2.out.trans hf3 (by simp))
  have HO3 := Lib.hid (OwnF.kept HO2.out hf3 (fun _ _ => by simp))
  have e1 : w3.cell? ⟨w.heap.size + 1, 1, none⟩ = some (.int .i64 ty) := blk_cell (hf3.blk HBQ.out (by simp)) 1 rfl
  have e2 : w3.cell? ⟨w.heap.size + 1, 2, none⟩ = some (.int .i64 cl) := blk_cell (hf3.blk HBQ.out (by simp)) 2 rfl
  have e3 : w3.cell? ⟨w.heap.size, 5, none⟩ = some (.bool rd) := blk_cell (hf3.blk HBM.out (by simp)) 5 rfl
  have b3 : w.heap.size < w3.heap.size := lt_of_blk (hf3.blk HBM.out (by simp))
  have b4 : w.heap.size + 1 < w3.heap.size := lt_of_blk (hf3.blk HBQ.out (by simp))
  have HS3 := Lib.hid (show w.heap.size ≤ w3.heap.size from HF3.out.size)
  clear hf3
  cases rd
  · cases dob
    · go_wp2_with (at_builtin; refine wpList_app rfl (.tmp 66) (.tmp 82) 35 rfl 5 infoU8 Tryd.underlying35 rfl ((HO3.out.alloc _).alloc _) rfl (row_five (by simp) (fun j => u8V ([y1, y2, y3, y4, xByte false false].getD j 0)) HT1.out.symm HT2.out.symm HT3.out.symm HT4.out.symm rfl) rfl (fun _ _ => rfl) (by unfold maxLen; have := HLN.out; omega) (by have := HLN.out; omega) (by simp; have := HS3.out; omega) ?_; intro v4 w4 ho4 hf4 _)
      go_ret2
      exact ⟨_, rfl, OwnB.more ho4 _ rfl (fun j _ => rfl), ((HF3.out.alloc _).alloc _).trans hf4 (fun x hx => .inr (HO3.out.ge x hx))⟩
    · go_wp2_with (at_builtin; refine wpList_app rfl (.tmp 66) (.tmp 82) 35 rfl 5 infoU8 Tryd.underlying35 rfl ((HO3.out.alloc _).alloc _) rfl (row_five (by simp) (fun j => u8V ([y1, y2, y3, y4, xByte false true].getD j 0)) HT1.out.symm HT2.out.symm HT3.out.symm HT4.out.symm rfl) rfl (fun _ _ => rfl) (by unfold maxLen; have := HLN.out; omega) (by have := HLN.out; omega) (by simp; have := HS3.out; omega) ?_; intro v4 w4 ho4 hf4 _)
      go_ret2
      exact ⟨_, rfl, OwnB.more ho4 _ rfl (fun j _ => rfl), ((HF3.out.alloc _).alloc _).trans hf4 (fun x hx => .inr (HO3.out.ge x hx))⟩
  · cases dob
    · go_wp2_with (at_builtin; refine wpList_app rfl (.tmp 66) (.tmp 82) 35 rfl 5 infoU8 Tryd.underlying35 rfl ((HO3.out.alloc _).alloc _) rfl (row_five (by simp) (fun j => u8V ([y1, y2, y3, y4, xByte true false].getD j 0)) HT1.out.symm HT2.out.symm HT3.out.symm HT4.out.symm rfl) rfl (fun _ _ => rfl) (by unfold maxLen; have := HLN.out; omega) (by have := HLN.out; omega) (by simp; have := HS3.out; omega) ?_; intro v4 w4 ho4 hf4 _)
      go_ret2
      exact ⟨_, rfl, OwnB.more ho4 _ rfl (fun j _ => rfl), ((HF3.out.alloc _).alloc _).trans hf4 (fun x hx => .inr (HO3.out.ge x hx))⟩
    · go_wp2_with (at_builtin; refine wpList_app rfl (.tmp 66) (.tmp 82) 35 rfl 5 infoU8 Tryd.underlying35 rfl ((HO3.out.alloc _).alloc _) rfl (row_five (by simp) (fun j => u8V ([y1, y2, y3, y4, xByte true true].getD j 0)) HT1.out.symm HT2.out.symm HT3.out.symm HT4.out.symm rfl) rfl (fun _ _ => rfl) (by unfold maxLen; have := HLN.out; omega) (by have := HLN.out; omega) (by simp; have := HS3.out; omega) ?_; intro v4 w4 ho4 hf4 _)
      go_ret2
      exact ⟨_, rfl, OwnB.more ho4 _ rfl (fun j _ => rfl), ((HF3.out.alloc _).alloc _).trans hf4 (fun x hx => .inr (HO3.out.ge x hx))⟩

end Go.Proofs.YtkdmkpdooiacaaaDoor
