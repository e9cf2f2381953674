/- cache.Put: the walk. -/
import Derived.Test.YtkdmkpdooiacaaaDoorZbase7
namespace Go.Proofs.YtkdmkpdooiacaaaDoor
open Go.RowKit

theorem tbad_all {T : Nat → Int} {n : Nat} (h : tbad T n = false) : ∀ j, j < n → 0 ≤ T j ∧ T j ≤ 4294967295 := fun j hj => by
  by_cases h1 : 0 ≤ T j ∧ T j ≤ 4294967295
  · exact h1
  · rw [tbad_hit hj (by omega)] at h
    cases h

theorem lmn_mem (T : Nat → Int) (k : Nat) : lmn T k = -1 ∨ ∃ j, j < k ∧ lmn T k = T j := by
  induction k with
  | zero => exact .inl rfl
  | succ k ih =>
    simp only [lmn]
    split
    · exact .inr ⟨k, by omega, rfl⟩
    · rcases ih with h | ⟨j, hj, h⟩
      · exact .inl h
      · exact .inr ⟨j, by omega, h⟩

theorem life_ok {m : Ms} (h : lifeZ m = 0) : lifeV m = lmn m.T1 m.N1 ∧ 0 < lifeV m ∧ lifeV m ≤ 4294967295 ∧ tbad m.T2 (m.N1 + m.mn) = false := by
  have hv : lifeV m = lmn m.T1 m.N1 := by unfold lifeV; rw [if_pos h]
  have hz : lifeZ m = if tbad m.T2 (m.N1 + m.mn) = true then 6 else if lmn m.T1 m.N1 ≤ 0 then 9 else 0 := rfl
  rw [h] at hz
  by_cases h1 : tbad m.T2 (m.N1 + m.mn) = true
  · rw [if_pos h1] at hz; omega
  · rw [if_neg h1] at hz
    by_cases h2 : lmn m.T1 m.N1 ≤ 0
    · rw [if_pos h2] at hz; omega
    · have h3 : tbad m.T2 (m.N1 + m.mn) = false := by simpa using h1
      refine ⟨hv, by omega, ?_, h3⟩
      rw [hv]
      rcases lmn_mem m.T1 m.N1 with e | ⟨j, hj, e⟩
      · omega
      · have := tbad_all h3 j (by omega)
        have e2 : m.T2 j = m.T1 j := by
          show (if j < m.N1 then _ else _) = _
          rw [if_pos hj]
        rw [e2] at this
        omega

def PutGood (w w' : World) (B : HB) (p : Nat) (n : Int) (v : Value) (l : List En) (q a : Ms) (dob : Bool) (z now : Int) (e : Ending) : Prop :=
  (putZ q a z now ≠ 0 ∧ e = .returned (.iface 25 (.int .i64 (putZ q a z now))) ∧ Fr [] w w') ∨ (putZ q a z now = 0 ∧ e = .returned .nilIface ∧ ∃ v', Ca B w' p n v' (frL (putE q a dob now) n l) ∧ FrH B w w' ∧ Fr (p :: v.ownBlock.toList) w w')

set_option maxHeartbeats 4000000 in
set_option maxRecDepth 100000 in
theorem put_any (w : World) (B : HB) (p : Nat) (n : Int) (v : Value) (l : List En) (q a : Ms) (vq va vu vm xq xa xu xm : Value) (now : Int) (dob : Bool) (z : Int) (hC : Ca B w p n v l)
    (hq : MsOk B w q vq va vu vm) (ha : MsOk B w a xq xa xu xm) (hfs : FindSays q vq va vu vm dob z w) (hsz : (a.an + a.un + a.mn + a.mn) * 72 ≤ 140737488355328) (hB : B.In w) (hnow : -9223372036854775808 ≤ now ∧ now ≤ 9223372036854775807) :
    Calls Tryd.prog 11 #[.pointer (some ⟨p, 0, none⟩), msgV q.h vq va vu vm, msgV a.h xq xa xu xm, .int .i64 now] w fun e w' => PutGood w w' B p n v l q a dob z now e := by
  have HPZ := Lib.hid (show putZ q a z now = if keyFault q z ≠ 0 then keyFault q z else if (a.h.an && alikeF q a) = false then 1 else if now < 0 then 6 else lifeZ a from rfl)
  have HKEY := Lib.hid (fun wx (h : Fr [] w wx) => key_any wx B q vq va vu vm dob z (hq.frH (h.hot0 B)) (hfs.fr h))
  have HAL := Lib.hid (fun wx (h : Fr [] w wx) => alike_msg wx B q a vq va vu vm xq xa xu xm (hq.frH (h.hot0 B)) (ha.frH (h.hot0 B)))
  have HLF := Lib.hid (fun wx (h : Fr [] w wx) => life_any wx B a xq xa xu xm (ha.frH (h.hot0 B)) hsz)
  have HTD := Lib.hid (fun wx (h : Fr [] w wx) => told_any wx B q a vq va vu vm xq xa xu xm 0 (hq.frH (h.hot0 B)) (ha.frH (h.hot0 B)) (fun x hx => Nat.lt_of_lt_of_le (hB.s x hx) h.size))
  have HFR := Lib.hid (fun wx (e : En) qa qc aa ac ua uc ma mc (h : Fr [] w wx) hm hat hlf => front_any wx B p n v l e qa aa ua ma qc ac uc mc (hC.fr0 h) hm hat hlf (Nat.le_trans hB.n h.size))
  obtain ⟨_, g0⟩ := hq.hq
  obtain ⟨_, g1⟩ := hq.ha
  obtain ⟨_, g2⟩ := hq.hu
  obtain ⟨_, g3⟩ := hq.hm
  obtain ⟨_, g4⟩ := ha.hq
  obtain ⟨_, g5⟩ := ha.ha
  obtain ⟨_, g6⟩ := ha.hu
  obtain ⟨_, g7⟩ := ha.hm
  obtain ⟨qb0, qc0, rfl⟩ := g0.rd.slice
  obtain ⟨qb1, qc1, rfl⟩ := g1.rd.slice
  obtain ⟨qb2, qc2, rfl⟩ := g2.rd.slice
  obtain ⟨qb3, qc3, rfl⟩ := g3.rd.slice
  obtain ⟨ab0, ac0, rfl⟩ := g4.rd.slice
  obtain ⟨ab1, ac1, rfl⟩ := g5.rd.slice
  obtain ⟨ab2, ac2, rfl⟩ := g6.rd.slice
  obtain ⟨ab3, ac3, rfl⟩ := g7.rd.slice
  clear hq ha hfs hC g0 g1 g2 g3 g4 g5 g6 g7
  unfold msgV at *
  obtain ⟨qh, eqh⟩ : ∃ x, q.h = x := ⟨_, rfl⟩
  obtain ⟨ah, eah⟩ : ∃ x, a.h = x := ⟨_, rfl⟩
  have HEQ := Lib.hid eqh
  have HEA := Lib.hid eah
  have HTH := Lib.hid (show (tolM q a 0).h = { ah with id := qh.id, rd := qh.rd } by rw [← eqh, ← eah]; rfl)
  rw [eqh] at HKEY HAL HTD ⊢
  rw [eah] at HAL HLF HTD HPZ ⊢
  clear eqh eah
  obtain ⟨h0, h1, h2, h3, h4, h5, h6, h7, h8, h9, h10⟩ := qh
  obtain ⟨i0, i1, i2, i3, i4, i5, i6, i7, i8, i9, i10⟩ := ah
  simp only at *
  go_enter Tryd.func11, Tryd.ntmps11
  go_wp2_with fail
  have HF2 := Lib.hid (show Fr [] w ((w.alloc (.cells #[.int .i64 h0, .bool h1, .int .i64 h2, .bool h3, .bool h4, .bool h5, .bool h6, .bool h7, .bool h8, .bool h9, .int .i64 h10, .slice qb0 q.qn qc0, .slice qb1 q.an qc1, .slice qb2 q.un qc2, .slice qb3 q.mn qc3] 43)).alloc (.cells #[.int .i64 i0, .bool i1, .int .i64 i2, .bool i3, .bool i4, .bool i5, .bool i6, .bool i7, .bool i8, .bool i9, .int .i64 i10, .slice ab0 a.qn ac0, .slice ab1 a.an ac1, .slice ab2 a.un ac2, .slice ab3 a.mn ac3] 43)) from ((Fr.refl [] w).alloc _).alloc _)
  obtain ⟨hb0, hb1, hbs⟩ := two_new w (.cells #[.int .i64 h0, .bool h1, .int .i64 h2, .bool h3, .bool h4, .bool h5, .bool h6, .bool h7, .bool h8, .bool h9, .int .i64 h10, .slice qb0 q.qn qc0, .slice qb1 q.an qc1, .slice qb2 q.un qc2, .slice qb3 q.mn qc3] 43) (.cells #[.int .i64 i0, .bool i1, .int .i64 i2, .bool i3, .bool i4, .bool i5, .bool i6, .bool i7, .bool i8, .bool i9, .int .i64 i10, .slice ab0 a.qn ac0, .slice ab1 a.an ac1, .slice ab2 a.un ac2, .slice ab3 a.mn ac3] 43)
  have HB0 := Lib.hid (fun (wx : World) (h : Fr [] ((w.alloc (.cells #[.int .i64 h0, .bool h1, .int .i64 h2, .bool h3, .bool h4, .bool h5, .bool h6, .bool h7, .bool h8, .bool h9, .int .i64 h10, .slice qb0 q.qn qc0, .slice qb1 q.an qc1, .slice qb2 q.un qc2, .slice qb3 q.mn qc3] 43)).alloc (.cells #[.int .i64 i0, .bool i1, .int .i64 i2, .bool i3, .bool i4, .bool i5, .bool i6, .bool i7, .bool i8, .bool i9, .int .i64 i10, .slice ab0 a.qn ac0, .slice ab1 a.an ac1, .slice ab2 a.un ac2, .slice ab3 a.mn ac3] 43)) wx) => msg_cells (h := ⟨h0, h1, h2, h3, h4, h5, h6, h7, h8, h9, h10⟩) (h.blk hb0 (by simp)))
  have HB1 := Lib.hid (fun (wx : World) (h : Fr [] ((w.alloc (.cells #[.int .i64 h0, .bool h1, .int .i64 h2, .bool h3, .bool h4, .bool h5, .bool h6, .bool h7, .bool h8, .bool h9, .int .i64 h10, .slice qb0 q.qn qc0, .slice qb1 q.an qc1, .slice qb2 q.un qc2, .slice qb3 q.mn qc3] 43)).alloc (.cells #[.int .i64 i0, .bool i1, .int .i64 i2, .bool i3, .bool i4, .bool i5, .bool i6, .bool i7, .bool i8, .bool i9, .int .i64 i10, .slice ab0 a.qn ac0, .slice ab1 a.an ac1, .slice ab2 a.un ac2, .slice ab3 a.mn ac3] 43)) wx) => msg_cells (h := ⟨i0, i1, i2, i3, i4, i5, i6, i7, i8, i9, i10⟩) (h.blk hb1 (by simp)))
  clear hb0 hb1 hbs
  generalize (w.alloc (.cells #[.int .i64 h0, .bool h1, .int .i64 h2, .bool h3, .bool h4, .bool h5, .bool h6, .bool h7, .bool h8, .bool h9, .int .i64 h10, .slice qb0 q.qn qc0, .slice qb1 q.an qc1, .slice qb2 q.un qc2, .slice qb3 q.mn qc3] 43)).alloc (.cells #[.int .i64 i0, .bool i1, .int .i64 i2, .bool i3, .bool i4, .bool i5, .bool i6, .bool i7, .bool i8, .bool i9, .int .i64 i10, .slice ab0 a.qn ac0, .slice ab1 a.an ac1, .slice ab2 a.un ac2, .slice ab3 a.mn ac3] 43) = W2 at *
  refine (HKEY.out W2 HF2.out).mono ?_
  rintro e w2 ⟨hk, hf2⟩
  have HFW := Lib.hid (HF2.out.trans hf2 (by simp))
  have HFX := Lib.hid hf2
  clear hf2
  rcases hk with ⟨hk0, v2, rfl, ho2⟩ | ⟨hk0, rfl⟩
  case inr =>
    have HZ := Lib.hid (HPZ.out.trans (if_pos hk0))
    have HK0 := Lib.hid hk0
    clear hk0 HPZ HKEY HAL HLF HTD HFR HB0 HB1
    go_wp2_with fail
    go_ret
    exact .inl ⟨by rw [HZ.out]; exact HK0.out, by rw [HZ.out]; rfl, HFW.out⟩
  have HPZ2 := Lib.hid (HPZ.out.trans (if_neg (by rw [hk0]; decide)))
  clear hk0 HPZ HKEY
  have HO2 := Lib.hid ho2
  clear ho2
  obtain ⟨x0, x1, x2, x3, x4, x5, x6, x7, x8, x9, x10, x11, x12, x13, x14⟩ := HB0.out w2 HFX.out
  obtain ⟨y0, y1, y2, y3, y4, y5, y6, y7, y8, y9, y10, y11, y12, y13, y14⟩ := HB1.out w2 HFX.out
  cases i1
  · have HZ := Lib.hid (HPZ2.out.trans (if_pos (by simp)))
    clear HPZ2 HAL HLF HTD HFR HB0 HB1
    go_wp2_with fail
    go_ret
    exact .inl ⟨by rw [HZ.out]; decide, by rw [HZ.out]; rfl, HFW.out⟩
  simp only [Bool.true_and] at HPZ2
  go_wp2_with fail
  refine (HAL.out w2 HFW.out).mono ?_
  rintro e w3 ⟨rfl, hf3⟩
  have HFW3 := Lib.hid (HFW.out.trans hf3 (by simp))
  have HFX3 := Lib.hid (HFX.out.trans hf3 (by simp))
  have HO3 := Lib.hid (OwnF.kept HO2.out hf3 (fun _ _ => by simp))
  clear hf3 HAL HO2 x0 x1 x2 x3 x4 x5 x6 x7 x8 x9 x10 x11 x12 x13 x14 y0 y1 y2 y3 y4 y5 y6 y7 y8 y9 y10 y11 y12 y13 y14
  cases hal : alikeF q a
  · have HZ := Lib.hid (HPZ2.out.trans (if_pos hal))
    clear HPZ2 HLF HTD HFR HB0 HB1 hal
    go_wp2_with fail
    go_ret
    exact .inl ⟨by rw [HZ.out]; decide, by rw [HZ.out]; rfl, HFW3.out⟩
  have HPZ3 := Lib.hid (HPZ2.out.trans (if_neg (by rw [hal]; decide)))
  clear HPZ2 hal
  by_cases hneg : now < 0
  · have HZ := Lib.hid (HPZ3.out.trans (if_pos hneg))
    clear HPZ3 HLF HTD HFR HB0 HB1
    go_wp2_with fail
    go_ret
    exact .inl ⟨by rw [HZ.out]; decide, by rw [HZ.out]; rfl, HFW3.out⟩
  have HPZ4 := Lib.hid (HPZ3.out.trans (if_neg hneg))
  clear HPZ3
  obtain ⟨y0, y1, y2, y3, y4, y5, y6, y7, y8, y9, y10, y11, y12, y13, y14⟩ := HB1.out w3 HFX3.out
  go_wp2_with fail
  refine (HLF.out w3 HFW3.out).mono ?_
  rintro e w4 ⟨rfl, hf4⟩
  have HFW4 := Lib.hid (HFW3.out.trans hf4 (by simp))
  have HFX4 := Lib.hid (HFX3.out.trans hf4 (by simp))
  have HO4 := Lib.hid (OwnF.kept HO3.out hf4 (fun _ _ => by simp))
  clear hf4 HLF HO3 y0 y1 y2 y3 y4 y5 y6 y7 y8 y9 y10 y11 y12 y13 y14
  by_cases hz : lifeZ a = 0
  case neg =>
    have HV := Lib.hid (show erVn (lifeZ a) = .iface 25 (.int .i64 (lifeZ a)) by unfold erVn; rw [if_neg hz])
    rw [HV.out]
    have HZZ := Lib.hid hz
    clear hz HB0 HB1 HTD HFR
    go_wp2_with fail
    go_ret
    exact .inl ⟨by rw [HPZ4.out]; exact HZZ.out, by rw [HPZ4.out]; rfl, HFW4.out⟩
  have HV := Lib.hid (show erVn (lifeZ a) = .nilIface by rw [hz]; rfl)
  rw [HV.out]
  have HZ := Lib.hid (HPZ4.out.trans hz)
  have HLO := Lib.hid (life_ok hz)
  clear hz HPZ4
  have hkl : 0 < (keyL (q.Q 0) q.h.rd dob).length := by unfold keyL; simp
  have HPE := Lib.hid (show putE q a dob now = ⟨keyL (q.Q 0) q.h.rd dob, tolM q a 0, now, lifeV a⟩ from rfl)
  generalize keyL (q.Q 0) q.h.rd dob = K at *
  obtain ⟨g, cap, rfl, hgB, hrow⟩ := HO4.out.row hkl
  have HROW := Lib.hid hrow
  have HCV := Lib.hid (fun (wx : World) (h : Fr [] w4 wx) => run_convert_bytes_back (P := Tryd.prog) wx 35 9 5 ⟨g, 0, none⟩ cap K Tryd.underlying35 Tryd.underlying5 Tryd.underlying9 (fun j hj => by
    rw [addr_lit_add, Nat.zero_add, (HROW.out.kept h (by simp)).cell j hj]
    unfold u8V
    rw [List.getD_eq_getElem?_getD, List.getElem?_eq_getElem hj]
    rfl))
  have HKB := Lib.hid (show (⟨K.toArray⟩ : ByteArray) = keyB K from rfl)
  rw [HKB.out] at HCV
  have hfr2 := fun (wx : World) qa qc aa ac ua uc ma mc (h : Fr [] w wx) hm => HFR.out wx ⟨K, tolM q a 0, now, lifeV a⟩ qa qc aa ac ua uc ma mc h hm hnow ⟨by have := HLO.out.2.1; show _ ≤ lifeV a; omega, by have := HLO.out.2.2.1; show lifeV a ≤ _; omega⟩
  unfold enV at hfr2
  simp only [HTH.out] at hfr2
  have HFR2 := Lib.hid hfr2
  clear hfr2 HFR hrow
  simp only [HTH.out] at HTD
  have HPE2 := Lib.hid (fun (w6 : World) (v' : Value) (h : Ca B w6 p n v' (frL ⟨K, tolM q a 0, now, lifeV a⟩ n l)) => show Ca B w6 p n v' (frL (putE q a dob now) n l) by rw [HPE.out]; exact h)
  generalize tolM q a 0 = tm at *
  generalize lifeV a = lv at *
  generalize keyB K = kb at *
  have HX0 := Lib.hid (fun (wx : World) (h : Fr [] w4 wx) => HB0.out wx (HFX4.out.trans h (by simp)))
  have HX1 := Lib.hid (fun (wx : World) (h : Fr [] w4 wx) => HB1.out wx (HFX4.out.trans h (by simp)))
  have HFD := Lib.hid (show Fr [] w4 w4.drew from (Fr.refl [] w4).drew)
  have HFWD := Lib.hid (HFW4.out.trans HFD.out (by simp))
  have HKN := Lib.hid hkl
  clear HB0 HB1 HO4 HROW HKB HPE HLO HTH HEQ HEA HFX HFX3 HFX4 HFW HFW3 HF2 hkl
  go_wp2_with fail
  obtain ⟨x0, x1, x2, x3, x4, x5, x6, x7, x8, x9, x10, x11, x12, x13, x14⟩ := HX0.out _ HFD.out
  obtain ⟨y0, y1, y2, y3, y4, y5, y6, y7, y8, y9, y10, y11, y12, y13, y14⟩ := HX1.out _ HFD.out
  have hcv0 := HCV.out _ HFD.out
  go_upto_region 11 with fail
  go_cut [] (fun wx => ∃ v', Ca B wx p n v' (frL (putE q a dob now) n l) ∧ FrH B w wx ∧ Fr (p :: v.ownBlock.toList) w wx)
  case first =>
    go_region_with
      (first
        | (go_at_call 29; (with_reducible refine (HTD.out _ HFWD.out).mono ?_); rintro e5 w5 ⟨vq', va', vu', vm', rfl, hms, hf5⟩; have hcv5 := HCV.out _ (HFD.out.trans hf5 (by simp)); have hfw5 := HFWD.out.trans hf5 (by simp); obtain ⟨_, j0⟩ := hms.hq; obtain ⟨_, j1⟩ := hms.ha; obtain ⟨_, j2⟩ := hms.hu; obtain ⟨_, j3⟩ := hms.hm; obtain ⟨s0, t0, rfl⟩ := j0.rd.slice; obtain ⟨s1, t1, rfl⟩ := j1.rd.slice; obtain ⟨s2, t2, rfl⟩ := j2.rd.slice; obtain ⟨s3, t3, rfl⟩ := j3.rd.slice)
        | (go_at_call 28; refine (HFR2.out _ _ _ _ _ _ _ _ _ hfw5 hms).mono ?_; rintro e6 w6 ⟨rfl, v', hca, hfh, hfo⟩)
        | fail)
    all_goals go_wp2_with fail
    all_goals go_meet
    all_goals exact ⟨v', HPE2.out _ _ hca, (hfw5.hot0 B).trans hfh, (hfw5.mono (by simp) : Fr (p :: v.ownBlock.toList) w _).trans hfo (fun x hx => .inl hx)⟩
  case rest =>
    obtain ⟨v', hca, hfh, hfo⟩ := hcut
    go_wp2_with fail
    go_ret
    exact .inr ⟨HZ.out, rfl, v', hca, hfh, hfo⟩

end Go.Proofs.YtkdmkpdooiacaaaDoor
