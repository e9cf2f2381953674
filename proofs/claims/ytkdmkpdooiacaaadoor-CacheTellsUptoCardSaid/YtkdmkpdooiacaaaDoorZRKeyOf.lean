/- The reference's KeyOf: what an answer hangs on. -/
import Derived.Test.YtkdmkpdooiacaaaDoorZOptOf
import Derived.Test.YtkdmkpdooiacaaaDoorZbase1
import Derived.Test.YtkdmkpdooiacaaaDoorZbase2
import Derived.Test.YtkdmkpdooiacaaaDoorZKeyAny
namespace Go.Proofs.YtkdmkpdooiacaaaDoor
open Go.RowKit

/-- what KeyOf leaves -/
def KeyRGood (w : World) (m : Ms) (e : Ending) (w' : World) : Prop :=
  ∃ (a : Option Addr) (c : Nat) (L : List UInt8), e = .returned (.tuple #[.slice a L.length c, .int .i64 (keyFault m (optZ m))]) ∧ OwnB w' w.heap.size (.slice a L.length c) L ∧ ((keyFault m (optZ m) = 0 → L = keyL (m.Q 0) m.h.rd (optDo m)) ∧ (keyFault m (optZ m) ≠ 0 → L = [])) ∧ Fr [] w w'

theorem two_newR (w : World) (x y : Obj) : ((w.alloc x).alloc y).heap[w.heap.size]? = some x ∧ ((w.alloc x).alloc y).heap[w.heap.size + 1]? = some y ∧ Fr [] w ((w.alloc x).alloc y) := by
  have s1 : (w.alloc x).heap.size = w.heap.size + 1 := by simp
  refine ⟨((Fr.refl [] _).alloc y).blk (heap_alloc_new w x) (by simp), ?_, ((Fr.refl [] w).alloc x).alloc y⟩
  rw [← s1]
  exact heap_alloc_new _ y

set_option maxHeartbeats 8000000 in
set_option maxRecDepth 100000 in
theorem keyOf_any (w : World) (B : HB) (m : Ms) (vq va vu vm : Value) (hm : MsOk B w m vq va vu vm) (hsm : ∀ i, i < m.mn → (m.M i).dl ≤ 1099511627776) :
    Calls Tryd.prog 7 #[msgV m.h vq va vu vm] w (KeyRGood w m) := by
  have hkf : keyFault m (optZ m) = if m.qn ≠ 1 then 9 else if nmFault (m.Q 0).nl (m.Q 0).nm ≠ 0 then nmFault (m.Q 0).nl (m.Q 0).nm else if ¬ (m.Q 0).ok then 6 else optZ m := rfl
  have HOPT := Lib.hid (fun (wx : World) (hx : Fr [] w wx) => optOf_any wx B m vq va vu vm (hm.frH (hx.hot0 B)) hsm)
  obtain ⟨F, hQ⟩ := hm.hq
  obtain ⟨qa, qc, rfl⟩ := hQ.rd.slice
  have HQ := Lib.hid hQ
  have hC0 : (msgCs m.h (.slice qa m.qn qc) va vu vm)[11]? = some (.slice qa m.qn qc) := rfl
  have hC1 : (msgCs m.h (.slice qa m.qn qc) va vu vm)[5]? = some (.bool m.h.rd) := rfl
  have hCS : (msgCs m.h (.slice qa m.qn qc) va vu vm).size = 15 := rfl
  have hMV : msgV m.h (.slice qa m.qn qc) va vu vm = .agg (msgCs m.h (.slice qa m.qn qc) va vu vm) := rfl
  rw [hMV] at HOPT ⊢
  clear hMV hQ hm
  obtain ⟨CM, hCM⟩ : ∃ C, msgCs m.h (.slice qa m.qn qc) va vu vm = C := ⟨_, rfl⟩
  rw [hCM] at hC0 hC1 hCS HOPT ⊢
  clear hCM
  have HC0 := Lib.hid hC0
  have HC1 := Lib.hid hC1
  have HCL := Lib.hid (show (Tryd.prog.info? 43).map (·.size) = some CM.toList.length from by
    rw [Array.length_toList, hCS]
    kernel_rfl)
  clear hC0 hC1 hCS
  have HB0 := Lib.hid (heap_alloc_new w (.cells CM 43))
  have HF0 := Lib.hid (show Fr [] w (w.alloc (.cells CM 43)) from (Fr.refl [] w).alloc _)
  have c11 := blk_cell HB0.out 11 HC0.out
  by_cases hq : m.qn = 1
  case neg =>
    have hne : ((m.qn : Int) != 1) = true := by simp; omega
    rw [if_pos hq] at hkf
    have HKF := Lib.hid hkf
    clear hkf
    go_enter Tryd.func7, Tryd.ntmps7
    go_wp2
    go_ret2
    exact ⟨none, 0, [], by rw [HKF.out]; rfl, OwnB.nil _ _, ⟨(fun h => by rw [HKF.out] at h; cases h), fun _ => rfl⟩, HF0.out⟩
  rw [if_neg (by simp [hq])] at hkf
  rw [hq] at HQ c11 HC0
  obtain ⟨b1, o1, c1, he1, _, _, hb1, hc1⟩ := HQ.out.rd.shape (by decide) (by decide)
  simp only [Value.slice.injEq, true_and] at he1
  obtain ⟨rfl, rfl⟩ := he1
  obtain ⟨na, nc, hF, hrn, hcd⟩ := HQ.out.at_ 0 (by decide)
  have hwf := HQ.out.wf 0 (by decide)
  have k1 := hc1 0 0 (by decide) (by decide)
  have k2 := hc1 0 1 (by decide) (by decide)
  have k3 := hc1 0 2 (by decide) (by decide)
  rw [hF 0 (by decide)] at k1
  rw [hF 1 (by decide)] at k2
  rw [hF 2 (by decide)] at k3
  simp only [Qs.F, Nat.add_zero, Nat.zero_mul] at k1 k2 k3
  have k1 := HF0.out.cell k1 (by simp)
  have k2 := HF0.out.cell k2 (by simp)
  have k3 := HF0.out.cell k3 (by simp)
  clear hc1 hF hcd HQ hq
  have HKL := Lib.hid (show keyL (m.Q 0) m.h.rd (optDo m) = wireL (fun j => smB ((m.Q 0).nm j)) (m.Q 0).nl ++ [0] ++ [UInt8.ofNat ((m.Q 0).ty.toNat / 256), UInt8.ofNat ((m.Q 0).ty.toNat % 256), UInt8.ofNat ((m.Q 0).cl.toNat / 256), UInt8.ofNat ((m.Q 0).cl.toNat % 256), xByte m.h.rd (optDo m)] from rfl)
  unfold KeyRGood
  unfold OptOfGood at HOPT
  generalize keyL (m.Q 0) m.h.rd (optDo m) = KL at *
  generalize keyFault m (optZ m) = KF at *
  generalize optZ m = OZ at *
  generalize optDo m = OD at *
  generalize m.h.rd = RD at *
  generalize m.Q 0 = q at *
  have HNF := Lib.hid (fun (wx : World) (hx : Fr [] w wx) => nameFault_any wx na q.nl nc q.nm (hrn.fr hx (by simp)) hwf.nms)
  have HRN := Lib.hid hrn
  have HNB := Lib.hid hwf.nlb
  generalize hty : q.ty = ty at *
  generalize hcl : q.cl = cl at *
  go_enter Tryd.func7, Tryd.ntmps7
  go_wp2_with fail
  obtain ⟨hb0, hb1', hf2⟩ := two_newR w (.cells CM 43) (.cells #[.slice na q.nl nc, .int .i64 ty, .int .i64 cl] 58)
  have HB0' := Lib.hid hb0
  have HB1 := Lib.hid hb1'
  have HF2 := Lib.hid hf2
  have HCU := Lib.hid (OwnB.nil w w.heap.size)
  clear hb0 hb1' hf2 c11 k1 k2 k3 HB0 HF0
  generalize (w.alloc (.cells CM 43)).alloc (.cells #[.slice na q.nl nc, .int .i64 ty, .int .i64 cl] 58) = W2 at *
  refine (HNF.out W2 HF2.out).mono ?_
  rintro e wx ⟨rfl, rfl⟩
  clear HNF
  have q0 := blk_cell HB1.out 0 (v := .slice na q.nl nc) rfl
  have q1 := blk_cell HB1.out 1 (v := .int .i64 ty) rfl
  have q2 := blk_cell HB1.out 2 (v := .int .i64 cl) rfl
  have H255 := Lib.hid (fun (h : nmFault q.nl q.nm = 0) => nmFault_ok h)
  generalize hNZ : nmFault q.nl q.nm = NZ at *
  by_cases hn : NZ = 0
  case neg =>
    have hn1 : (NZ == 0) = false := by simpa using hn
    rw [if_pos hn] at hkf
    have HKF := Lib.hid hkf
    have HN := Lib.hid hn
    clear hkf hn hNZ
    go_wp2
    go_ret2
    exact ⟨none, 0, [], by rw [HKF.out]; rfl, OwnB.nil _ _, ⟨(fun h => absurd (HKF.out.symm.trans h) HN.out), fun _ => rfl⟩, HF2.out⟩
  rw [if_neg (by simp [hn])] at hkf
  obtain ⟨h63, _, h255⟩ := H255.out hn
  obtain ⟨hln, hlw⟩ := nsz_len h255
  have HLN := Lib.hid hln
  have HLW := Lib.hid (show (wireL q.nm q.nl).length ≤ 254 from by omega)
  have H63 := Lib.hid h63
  clear H255 h255 h63 hln hlw hNZ
  subst hn
  by_cases hok : q.ok
  case neg =>
    rw [if_pos hok] at hkf
    have HKF := Lib.hid hkf
    have hnok : ¬ (0 ≤ ty ∧ ty ≤ 65535 ∧ 0 ≤ cl ∧ cl ≤ 65535) := by rw [← hty, ← hcl]; exact hok
    have HNOK := Lib.hid hnok
    clear hkf hok hnok hty hcl
    have hfin : KeyRGood w m (.returned (.tuple #[.slice none 0 0, .int .i64 6])) W2 ∨ True := .inr trivial
    clear hfin
    by_cases t1 : ty < 0
    · go_wp2
      go_ret2
      exact ⟨none, 0, [], by rw [HKF.out]; rfl, OwnB.nil _ _, ⟨(fun h => by rw [HKF.out] at h; cases h), fun _ => rfl⟩, HF2.out⟩
    by_cases t2 : 65535 < ty
    · go_wp2
      go_ret2
      exact ⟨none, 0, [], by rw [HKF.out]; rfl, OwnB.nil _ _, ⟨(fun h => by rw [HKF.out] at h; cases h), fun _ => rfl⟩, HF2.out⟩
    by_cases t3 : cl < 0
    · go_wp2
      go_ret2
      exact ⟨none, 0, [], by rw [HKF.out]; rfl, OwnB.nil _ _, ⟨(fun h => by rw [HKF.out] at h; cases h), fun _ => rfl⟩, HF2.out⟩
    have t4 : 65535 < cl := by have := HNOK.out; omega
    go_wp2
    go_ret2
    exact ⟨none, 0, [], by rw [HKF.out]; rfl, OwnB.nil _ _, ⟨(fun h => by rw [HKF.out] at h; cases h), fun _ => rfl⟩, HF2.out⟩
  rw [if_neg (by simp [hok])] at hkf
  have HKF := Lib.hid hkf
  obtain ⟨t1, t2, t3, t4⟩ : 0 ≤ ty ∧ ty ≤ 65535 ∧ 0 ≤ cl ∧ cl ≤ 65535 := by rw [← hty, ← hcl]; exact hok
  have HTY := Lib.hid (And.intro hty hcl)
  clear hkf hok hty hcl
  have d1 : ¬ ty < 0 := by omega
  have d2 : ¬ 65535 < ty := by omega
  have d3 : ¬ cl < 0 := by omega
  have d4 : ¬ 65535 < cl := by omega
  have hr0 := rng_arr HB0'.out
  go_wp2_with (first
    | ((with_reducible refine wpList_loadArr ?_ 43 (.tmp 1) ?_ w.heap.size 0 ?_ CM _ ?_ Tryd.underlying43 ?_ ?_ ?_); rfl; rfl; rfl; exact hr0; rfl; exact HCL.out)
    | fail)
  refine (HOPT.out W2 HF2.out).mono ?_
  rintro e w3 ⟨⟨sz, co, ve, zz, has, oa, on, oc, rfl⟩, hf3⟩
  have HF3 := Lib.hid (HF2.out.trans hf3 (by simp))
  have HB3 := Lib.hid (hf3.blk HB0'.out (by simp))
  have HQ3 := Lib.hid (hf3.blk HB1.out (by simp))
  clear hf3 q0 q1 q2 hr0 HB0' HB1 HF2 HOPT
  by_cases hoz : OZ = 0
  case neg =>
    have h1 : (OZ != 0) = true := by simpa using hoz
    have HN := Lib.hid hoz
    clear hoz
    go_wp2
    go_ret2
    exact ⟨none, 0, [], by rw [HKF.out]; rfl, OwnB.nil _ _, ⟨(fun h => absurd (HKF.out.symm.trans h) HN.out), fun _ => rfl⟩, HF3.out.alloc _⟩
  subst hoz
  have HO4 := Lib.hid (heap_alloc_new w3 (.cells #[.int .i64 sz, .int .i64 co, .int .i64 ve, .bool OD, .int .i64 zz, .slice oa on oc] 68))
  have hf4 : Fr [] w3 (w3.alloc (.cells #[.int .i64 sz, .int .i64 co, .int .i64 ve, .bool OD, .int .i64 zz, .slice oa on oc] 68)) := (Fr.refl [] w3).alloc _
  have HF4 := Lib.hid (HF3.out.trans hf4 (by simp))
  have HB4 := Lib.hid (hf4.blk HB3.out (by simp))
  have HQ4 := Lib.hid (hf4.blk HQ3.out (by simp))
  clear hf4 HB3 HQ3 HF3
  go_wp2_with fail
  generalize w3.alloc (.cells #[.int .i64 sz, .int .i64 co, .int .i64 ve, .bool OD, .int .i64 zz, .slice oa on oc] 68) = w4 at *
  go_loopw [8, 9] (fun vo vi wr => ∃ k : Nat, k ≤ q.nl ∧ vi = .int .i64 k ∧ OwnF wr w4.heap.size 9 vo k (fun j => .string (smB (q.nm j))) ∧ Fr [] w4 wr) (fun _ vi _ => q.nl - (intOf vi).toNat)
  case atStart => exact ⟨0, by omega, rfl, OwnF.nil _ _ _ _, Fr.refl _ _⟩
  case round =>
    obtain ⟨k, hk, rfl, ho, hf⟩ := hrel
    have HO := Lib.hid ho
    have HF := Lib.hid hf
    have HFW := Lib.hid (HF4.out.trans hf (by simp))
    have q0 := blk_cell (hf.blk HQ4.out (by simp)) 0 (v := .slice na q.nl nc) rfl
    clear ho hf
    by_cases hlt : k < q.nl
    · obtain ⟨b2, o2, c2, he2, _, _, _, hc2⟩ := HRN.out.shape (by omega)
      simp only [Value.slice.injEq, true_and] at he2
      obtain ⟨rfl, rfl⟩ := he2
      have k1 := HFW.out.cell (hc2 k hlt) (by simp)
      clear hc2
      have k0 : (0 : Int) ≤ (k : Int) := by omega
      have k3 : (k : Int) < (q.nl : Int) := by omega
      have k9 : (q.nl : Int) ≤ 254 := HLN.out
      have hs63 := H63.out k hlt
      have HFO := Lib.hid (fun (wx : World) => folded_any wx (q.nm k) (by omega))
      have HN2 := Lib.hid (And.intro HLN.out hlt)
      obtain ⟨sk, hsk⟩ : ∃ s, q.nm k = s := ⟨_, rfl⟩
      have HSK := Lib.hid hsk
      rw [hsk] at k1 HFO
      clear hsk hs63
      go_wp2_with fail
      refine (HFO.out wr).mono ?_
      rintro e w5 ⟨rfl, hf5⟩
      have HO5 := Lib.hid (OwnF.kept HO.out hf5 (fun _ _ => by simp))
      have HF5 := Lib.hid (HF.out.trans hf5 (by simp))
      clear hf5 k1 q0
      go_wp2_with (at_builtin; refine wpList_app rfl (.tmp 64) (.tmp 71) 56 rfl 9 infoStr Tryd.underlying56 rfl (OwnF.alloc HO5.out _) rfl (rd_one _ _ _ rfl) rfl (fun _ _ => rfl) (by unfold maxLen; have := HN2.out; omega) (by have := HN2.out; omega) (by simp; have := HF5.out.size; omega) ?_; intro v6 w6 ho6 hf6 _)
      have HO6 := Lib.hid (show OwnF w6 w4.heap.size 9 v6 (k + 1) (fun j => .string (smB (q.nm j))) from ho6.congr (fun j hj => by
        unfold app
        by_cases h : j < k
        · rw [if_pos h]
        · obtain rfl : j = k := by omega
          rw [if_neg h, HSK.out]))
      have HF6 := Lib.hid (show Fr [] w4 w6 from (HF5.out.alloc _).trans hf6 (fun x hx => .inr (OwnF.ge HO5.out x hx)))
      clear ho6 hf6
      go_roundw
      case rel => exact ⟨k + 1, by omega, by go_num, HO6.out, HF6.out⟩
      case measure => (simp [intOf] <;> omega)
    · obtain rfl : k = q.nl := by omega
      obtain ⟨fa, fc, rfl⟩ := HO.out.rd.slice
      have HSN := Lib.hid (sentRef_any wr fa q.nl fc (fun j => smB (q.nm j)) HO.out.rd (fun j hj => by rw [smB_size]; have := H63.out j hj; omega) (by have := HLN.out; omega))
      have HLX := Lib.hid (show (wireL (fun j => smB (q.nm j)) q.nl ++ [0]).length ≤ 255 by
        have h1 : (wireL (fun j => smB (q.nm j)) q.nl).length = (wireL q.nm q.nl).length := by
          generalize q.nl = n
          induction n with
          | zero => rfl
          | succ n ih =>
            simp only [wireL, List.length_append, List.length_cons, ih]
            congr 2
            have := smB_size (q.nm n)
            exact this
        have := HLW.out
        rw [List.length_append, h1]
        simp
        omega)
      have q1 := blk_cell (HF.out.blk HQ4.out (by simp)) 1 (v := .int .i64 ty) rfl
      have q2 := blk_cell (HF.out.blk HQ4.out (by simp)) 2 (v := .int .i64 cl) rfl
      have d1' := HB4.out
      have HFE := Lib.hid (fun (wx : World) (h : Fr [] wr wx) => show wx.cell? ⟨w.heap.size, 5, none⟩ = some (.bool RD) ∧ wx.cell? ⟨w3.heap.size, 3, none⟩ = some (.bool OD) ∧ wx.cell? ⟨w.heap.size + 1, 1, none⟩ = some (.int .i64 ty) ∧ wx.cell? ⟨w.heap.size + 1, 2, none⟩ = some (.int .i64 cl) from
        ⟨blk_cell ((HF.out.trans h (by simp)).blk HB4.out (by simp)) 5 HC1.out, blk_cell ((HF.out.trans h (by simp)).blk HO4.out (by simp)) 3 rfl, blk_cell ((HF.out.trans h (by simp)).blk HQ4.out (by simp)) 1 rfl, blk_cell ((HF.out.trans h (by simp)).blk HQ4.out (by simp)) 2 rfl⟩)
      clear d1' q1 q2
      go_wp2_with fail
      refine HSN.out.mono ?_
      rintro e w7 ⟨v7, rfl, ho7, hf7⟩
      obtain ⟨p1, p2, p3, p4⟩ := HFE.out _ hf7
      have HO7 := Lib.hid (OwnF.mono ho7 HFW.out.size)
      have HF7 := Lib.hid (HFW.out.trans hf7 (by simp))
      clear ho7 hf7 HFE HSN
      obtain ⟨ka, kc, rfl⟩ := HO7.out.rd.slice
      generalize hlk : wireL (fun j => smB (q.nm j)) q.nl ++ [0] = LK at *
      have HT1 := Lib.hid (u8_div t1 t2)
      have HT2 := Lib.hid (u8_mod t1)
      have HT3 := Lib.hid (u8_div t3 t4)
      have HT4 := Lib.hid (u8_mod t3)
      have HKL2 := Lib.hid (show KL = LK ++ [UInt8.ofNat (ty.toNat / 256), UInt8.ofNat (ty.toNat % 256), UInt8.ofNat (cl.toNat / 256), UInt8.ofNat (cl.toNat % 256), xByte RD OD] by rw [HKL.out])
      generalize UInt8.ofNat (ty.toNat / 256) = y1 at *
      generalize UInt8.ofNat (ty.toNat % 256) = y2 at *
      generalize UInt8.ofNat (cl.toNat / 256) = y3 at *
      generalize UInt8.ofNat (cl.toNat % 256) = y4 at *
      clear hlk HKL
      have HLX2 := Lib.hid (show LK.length + 5 ≤ 300 by have := HLX.out; omega)
      cases RD
      · cases OD
        · go_wp2_with (at_builtin; refine wpList_app rfl (.tmp 84) (.tmp 103) 35 rfl 5 infoU8 Tryd.underlying35 rfl (OwnF.alloc HO7.out _) rfl (row_five (by simp) (fun j => u8V ([y1, y2, y3, y4, xByte false false].getD j 0)) HT1.out.symm HT2.out.symm HT3.out.symm HT4.out.symm rfl) rfl (fun _ _ => rfl) (by unfold maxLen; have := HLX2.out; omega) (by have := HLX2.out; omega) (by simp; have := HF7.out.size; omega) ?_; intro v8 w8 ho8 hf8 _)
          have HO8 := Lib.hid (OwnB.more ho8 [y1, y2, y3, y4, xByte false false] rfl (fun j _ => rfl))
          have HF8 := Lib.hid (show Fr [] w w8 from (HF7.out.alloc _).trans hf8 (fun x hx => .inr (OwnF.ge HO7.out x hx)))
          obtain ⟨za, zc, hz8⟩ := (show RdF w8 v8 _ _ from HO8.out.rd).slice
          subst hz8
          clear ho8 hf8
          go_ret2
          exact ⟨za, zc, _, (by rw [HKF.out]; try rfl), HO8.out, ⟨fun _ => HKL2.out.symm, fun h => absurd HKF.out h⟩, HF8.out⟩
        · go_wp2_with (at_builtin; refine wpList_app rfl (.tmp 84) (.tmp 103) 35 rfl 5 infoU8 Tryd.underlying35 rfl (OwnF.alloc HO7.out _) rfl (row_five (by simp) (fun j => u8V ([y1, y2, y3, y4, xByte false true].getD j 0)) HT1.out.symm HT2.out.symm HT3.out.symm HT4.out.symm rfl) rfl (fun _ _ => rfl) (by unfold maxLen; have := HLX2.out; omega) (by have := HLX2.out; omega) (by simp; have := HF7.out.size; omega) ?_; intro v8 w8 ho8 hf8 _)
          have HO8 := Lib.hid (OwnB.more ho8 [y1, y2, y3, y4, xByte false true] rfl (fun j _ => rfl))
          have HF8 := Lib.hid (show Fr [] w w8 from (HF7.out.alloc _).trans hf8 (fun x hx => .inr (OwnF.ge HO7.out x hx)))
          obtain ⟨za, zc, hz8⟩ := (show RdF w8 v8 _ _ from HO8.out.rd).slice
          subst hz8
          clear ho8 hf8
          go_ret2
          exact ⟨za, zc, _, (by rw [HKF.out]; try rfl), HO8.out, ⟨fun _ => HKL2.out.symm, fun h => absurd HKF.out h⟩, HF8.out⟩
      · cases OD
        · go_wp2_with (at_builtin; refine wpList_app rfl (.tmp 84) (.tmp 103) 35 rfl 5 infoU8 Tryd.underlying35 rfl (OwnF.alloc HO7.out _) rfl (row_five (by simp) (fun j => u8V ([y1, y2, y3, y4, xByte true false].getD j 0)) HT1.out.symm HT2.out.symm HT3.out.symm HT4.out.symm rfl) rfl (fun _ _ => rfl) (by unfold maxLen; have := HLX2.out; omega) (by have := HLX2.out; omega) (by simp; have := HF7.out.size; omega) ?_; intro v8 w8 ho8 hf8 _)
          have HO8 := Lib.hid (OwnB.more ho8 [y1, y2, y3, y4, xByte true false] rfl (fun j _ => rfl))
          have HF8 := Lib.hid (show Fr [] w w8 from (HF7.out.alloc _).trans hf8 (fun x hx => .inr (OwnF.ge HO7.out x hx)))
          obtain ⟨za, zc, hz8⟩ := (show RdF w8 v8 _ _ from HO8.out.rd).slice
          subst hz8
          clear ho8 hf8
          go_ret2
          exact ⟨za, zc, _, (by rw [HKF.out]; try rfl), HO8.out, ⟨fun _ => HKL2.out.symm, fun h => absurd HKF.out h⟩, HF8.out⟩
        · go_wp2_with (at_builtin; refine wpList_app rfl (.tmp 84) (.tmp 103) 35 rfl 5 infoU8 Tryd.underlying35 rfl (OwnF.alloc HO7.out _) rfl (row_five (by simp) (fun j => u8V ([y1, y2, y3, y4, xByte true true].getD j 0)) HT1.out.symm HT2.out.symm HT3.out.symm HT4.out.symm rfl) rfl (fun _ _ => rfl) (by unfold maxLen; have := HLX2.out; omega) (by have := HLX2.out; omega) (by simp; have := HF7.out.size; omega) ?_; intro v8 w8 ho8 hf8 _)
          have HO8 := Lib.hid (OwnB.more ho8 [y1, y2, y3, y4, xByte true true] rfl (fun j _ => rfl))
          have HF8 := Lib.hid (show Fr [] w w8 from (HF7.out.alloc _).trans hf8 (fun x hx => .inr (OwnF.ge HO7.out x hx)))
          obtain ⟨za, zc, hz8⟩ := (show RdF w8 v8 _ _ from HO8.out.rd).slice
          subst hz8
          clear ho8 hf8
          go_ret2
          exact ⟨za, zc, _, (by rw [HKF.out]; try rfl), HO8.out, ⟨fun _ => HKL2.out.symm, fun h => absurd HKF.out h⟩, HF8.out⟩

end Go.Proofs.YtkdmkpdooiacaaaDoor
