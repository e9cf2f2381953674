/- The reference's Get: the walk. -/
import Derived.Test.YtkdmkpdooiacaaaDoorZbase8
import Derived.Test.YtkdmkpdooiacaaaDoorZbase1
namespace Go.Proofs.YtkdmkpdooiacaaaDoor
open Go.RowKit

/-- an entry's message in its cells -/
theorem re_msg (e : En) (k q a u m : Value) (c : Nat) (hc : c < 15) : (reCs e k q a u m)[1 + c]? = (msgCs e.m.h q a u m)[c]? := by
  match c, hc with
  | 0, _ => rfl
  | 1, _ => rfl
  | 2, _ => rfl
  | 3, _ => rfl
  | 4, _ => rfl
  | 5, _ => rfl
  | 6, _ => rfl
  | 7, _ => rfl
  | 8, _ => rfl
  | 9, _ => rfl
  | 10, _ => rfl
  | 11, _ => rfl
  | 12, _ => rfl
  | 13, _ => rfl
  | 14, _ => rfl

theorem get_congrR {α : Type} {l : List α} {a b : Nat} (h : a = b) (ha : a < l.length) (hb : b < l.length) : l[a] = l[b] := by subst h; rfl

theorem gIx_none {k : List UInt8} {now : Int} {l : List (En × RV)} (hn : ∀ j (hj : j < l.length), rOk k now l[j].1 = false) : gIx k now l = l.length := gIx_miss hn

set_option maxHeartbeats 8000000 in
set_option maxRecDepth 100000 in
theorem rget_any (w : World) (B : HB) (hS : ∀ x ∈ B.s, x < w.heap.size) (v : Value) (l : List (En × RV)) (n : Nat) (hn1 : 1 ≤ n) (hn : n ≤ 64) (hl : l.length ≤ 64) (hC : RCa B w v l) (q : Ms) (vq va vu vm : Value)
    (hq : MsOk B w q vq va vu vm) (hsm : ∀ i, i < q.mn → (q.M i).dl ≤ 1099511627776) (now : Int) (hnow : -9223372036854775808 ≤ now ∧ now ≤ 9223372036854775807) (hat : ∀ x ∈ l, 0 ≤ x.1.at_) :
    Calls Tryd.prog 12 #[.agg #[v, .int .i64 n], msgV q.h vq va vu vm, .int .i64 now] w (RGetGood w B v n l q vq now) := by
  obtain ⟨Bx, hBx⟩ : ∃ X : HB, X = ⟨B.n, (w.heap.size + 1 + 1) :: (w.heap.size + 1 + 1 + 1) :: B.s⟩ := ⟨_, rfl⟩
  have hxs : ∀ x ∈ Bx.s, x ∈ B.s ∨ w.heap.size ≤ x := fun x hx => by
    rw [hBx] at hx
    rcases List.mem_cons.1 hx with rfl | hx
    · exact .inr (by omega)
    · rcases List.mem_cons.1 hx with rfl | hx
      · exact .inr (by omega)
      · exact .inl hx
  have HBK := Lib.hid (show Bx.n = B.n ∧ (∀ x ∈ B.s, x ∈ Bx.s) ∧ (∀ x ∈ Bx.s, x < w.heap.size + 1 + 1 + 1 + 1) ∧ w.heap.size + 1 + 1 ∈ Bx.s ∧ w.heap.size + 1 + 1 + 1 ∈ Bx.s from by
    rw [hBx]
    refine ⟨rfl, fun x hx => List.mem_cons_of_mem _ (List.mem_cons_of_mem _ hx), fun x hx => ?_, List.mem_cons_self, List.mem_cons_of_mem _ List.mem_cons_self⟩
    rcases List.mem_cons.1 hx with rfl | hx
    · omega
    · rcases List.mem_cons.1 hx with rfl | hx
      · omega
      · have := hS x hx; omega)
  have hC := hC.turn HBK.out.1 hxs
  have hq := hq.turn HBK.out.1 hxs
  clear hxs hBx hS
  have HKEY := Lib.hid (fun (wx : World) (hx : Fr [] w wx) => keyOf_any wx Bx q vq va vu vm (hq.frH (hx.hot0 Bx)) hsm)
  have HWI := Lib.hid (fun (wx : World) (hx : Fr [] w wx) (hz : w.heap.size + 1 + 1 + 1 + 1 ≤ wx.heap.size) (x : En × RV) (hr : REn Bx wx x.1 x.2) => with_any wx Bx (fun y h => Nat.lt_of_lt_of_le (HBK.out.2.2.1 y h) hz) v l n hn1 hn hl (hC.frH (hx.hot0 Bx)) x hr)
  have HTT := Lib.hid (fun (wx : World) (hx : Fr [] w wx) (hz : w.heap.size + 1 + 1 + 1 + 1 ≤ wx.heap.size) (x : En × RV) (hr : REn Bx wx x.1 x.2) (age : Int) => toldTo_any wx Bx q x.1.m vq va vu vm (x.2.q x.1) (x.2.a x.1) (x.2.u x.1) (x.2.m x.1) age (hq.frH (hx.hot0 Bx)) hr.ms (fun y h => Nat.lt_of_lt_of_le (HBK.out.2.2.1 y h) hz))
  have HC := Lib.hid hC
  have HAT := Lib.hid hat
  have HNOW := Lib.hid hnow
  obtain ⟨va0, vc0, rfl⟩ := hC.rd.slice
  have hQV : msgV q.h vq va vu vm = .agg (msgCs q.h vq va vu vm) := rfl
  have hQS : (msgCs q.h vq va vu vm).size = 15 := rfl
  rw [hQV] at HKEY HTT
  rw [hQV]
  clear hQV hq hC hsm hat
  obtain ⟨CQ, hCQ⟩ : ∃ C, msgCs q.h vq va vu vm = C := ⟨_, rfl⟩
  rw [hCQ] at HKEY HTT hQS ⊢
  clear hCQ
  have HQL := Lib.hid (show (Tryd.prog.info? 43).map (·.size) = some CQ.toList.length from by
    rw [Array.length_toList, hQS]
    kernel_rfl)
  clear hQS
  obtain ⟨hb0, hb1, hb2, hb3, hf4⟩ := four_newR w (.cells #[.slice va0 l.length vc0, .int .i64 n] 34) (.cells CQ 43) (.cells #[.slice none 0 0, .int .i64 0] 34) (.cells zCs 43)
  unfold zCs at hb0 hb1 hb2 hb3 hf4
  have HB0 := Lib.hid hb0
  have HB1 := Lib.hid hb1
  have HB2 := Lib.hid hb2
  have HB3 := Lib.hid hb3
  have HF4 := Lib.hid hf4
  have HWZ := Lib.hid (show w.heap.size + 1 + 1 + 1 + 1 ≤ ((((w.alloc (.cells #[.slice va0 l.length vc0, .int .i64 n] 34)).alloc (.cells CQ 43)).alloc (.cells #[.slice none 0 0, .int .i64 0] 34)).alloc (.cells #[.int .i64 0, .bool false, .int .i64 0, .bool false, .bool false, .bool false, .bool false, .bool false, .bool false, .bool false, .int .i64 0, .slice none 0 0, .slice none 0 0, .slice none 0 0, .slice none 0 0] 43)).heap.size from by simp)
  clear hb0 hb1 hb2 hb3 hf4
  have hr1 := rng_arr HB1.out
  go_enter Tryd.func12, Tryd.ntmps12
  go_wp2_with (first
    | ((with_reducible refine wpList_loadArr ?_ 43 (.tmp 4) ?_ (w.heap.size + 1) 0 ?_ CQ _ ?_ Tryd.underlying43 ?_ ?_ ?_); rfl; rfl; rfl; exact hr1; rfl; exact HQL.out)
    | fail)
  clear hr1
  generalize (((w.alloc (.cells #[.slice va0 l.length vc0, .int .i64 n] 34)).alloc (.cells CQ 43)).alloc (.cells #[.slice none 0 0, .int .i64 0] 34)).alloc (.cells #[.int .i64 0, .bool false, .int .i64 0, .bool false, .bool false, .bool false, .bool false, .bool false, .bool false, .bool false, .int .i64 0, .slice none 0 0, .slice none 0 0, .slice none 0 0, .slice none 0 0] 43) = W at *
  refine (HKEY.out W HF4.out).mono ?_
  rintro e w1 ⟨ka, kc, L, rfl, hok, ⟨hkk, _⟩, hf1⟩
  have HOK := Lib.hid hok
  have HKK := Lib.hid hkk
  have HF1 := Lib.hid hf1
  clear hok hkk hf1 HKEY
  have HRET := Lib.hid (fun (wx : World) (h : Fr [] W wx) => show (wx.cell? ⟨w.heap.size, 0, none⟩ = some (.slice va0 l.length vc0) ∧ wx.cell? ⟨w.heap.size, 1, none⟩ = some (.int .i64 n)) ∧ (wx.cell? ⟨w.heap.size + 1 + 1, 0, none⟩ = some (.slice none 0 0) ∧ wx.cell? ⟨w.heap.size + 1 + 1, 1, none⟩ = some (.int .i64 0)) ∧ (wx.frozen? ⟨w.heap.size + 1 + 1, 0, none⟩ = false ∧ wx.frozen? ⟨w.heap.size + 1 + 1, 1, none⟩ = false) from
    ⟨⟨blk_cell (h.blk HB0.out (by simp)) 0 rfl, blk_cell (h.blk HB0.out (by simp)) 1 rfl⟩, ⟨blk_cell (h.blk HB2.out (by simp)) 0 rfl, blk_cell (h.blk HB2.out (by simp)) 1 rfl⟩, blk_frozen (h.blk HB2.out (by simp)) 0, blk_frozen (h.blk HB2.out (by simp)) 1⟩)
  -- the result's cells, and the empty message
  have HST := Lib.hid (fun (wx : World) (h : Fr [] W wx) (u : Value) => show ((wx.setCell ⟨w.heap.size + 1 + 1, 0, none⟩ u).setCell ⟨w.heap.size + 1 + 1, 1, none⟩ (.int .i64 n)).heap[w.heap.size + 1 + 1]? = some (.cells #[u, .int .i64 n] 34 (0, 0)) ∧ ((wx.setCell ⟨w.heap.size + 1 + 1, 0, none⟩ u).setCell ⟨w.heap.size + 1 + 1, 1, none⟩ (.int .i64 n)).heap[w.heap.size + 1 + 1 + 1]? = some (.cells #[.int .i64 0, .bool false, .int .i64 0, .bool false, .bool false, .bool false, .bool false, .bool false, .bool false, .bool false, .int .i64 0, .slice none 0 0, .slice none 0 0, .slice none 0 0, .slice none 0 0] 43 (0, 0)) ∧ Fr [w.heap.size + 1 + 1] wx ((wx.setCell ⟨w.heap.size + 1 + 1, 0, none⟩ u).setCell ⟨w.heap.size + 1 + 1, 1, none⟩ (.int .i64 n)) from
    have hf : Fr [w.heap.size + 1 + 1] wx ((wx.setCell ⟨w.heap.size + 1 + 1, 0, none⟩ u).setCell ⟨w.heap.size + 1 + 1, 1, none⟩ (.int .i64 n)) := ((Fr.refl [w.heap.size + 1 + 1] wx).setCell (p := ⟨w.heap.size + 1 + 1, 0, none⟩) (.inl (by simp)) _).setCell (p := ⟨w.heap.size + 1 + 1, 1, none⟩) (.inl (by simp)) _
    ⟨blk_set2 (h.blk HB2.out (by simp)) u (.int .i64 n), hf.blk (h.blk HB3.out (by simp)) (by simp), hf⟩)
  by_cases hkf : keyFault q (optZ q) = 0
  case neg =>
    generalize hKF : keyFault q (optZ q) = KF at *
    have hk1 : (KF != 0) = true := by simpa using hkf
    have HN := Lib.hid (show keyFault q (optZ q) ≠ 0 ∧ keyFault q (optZ q) = KF from ⟨by rw [hKF]; exact hkf, hKF⟩)
    clear hkf hKF
    obtain ⟨⟨a0, a1⟩, ⟨a2, a3⟩, a4, a5⟩ := HRET.out w1 HF1.out
    obtain ⟨hs1, hs2, hs3⟩ := HST.out w1 HF1.out (.slice va0 l.length vc0)
    have HS1 := Lib.hid hs1
    have HS2 := Lib.hid hs2
    have HS3 := Lib.hid hs3
    clear hs1 hs2 hs3
    go_wp2_with (first
      | ((with_reducible refine wpList_storeArr ?_ 43 (.tmp 7) (.tmp 22) ?_ (w.heap.size + 1 + 1 + 1) zCs #[.int .i64 0, .bool false, .int .i64 0, .bool false, .bool false, .bool false, .bool false, .bool false, .bool false, .bool false, .int .i64 0, .slice none 0 0, .slice none 0 0, .slice none 0 0, .slice none 0 0] 43 ?_ ?_ ?_ ?_ ?_ ?_ ?_); rfl; rfl; rfl; rfl; exact HS2.out; rfl; kernel_rfl; exact zCs_one; intro wF hbF hfF)
      | fail)
    have HBC := Lib.hid (hfF.blk HS1.out (by simp))
    have HFF := Lib.hid (show Fr [] w wF from ((HF4.out.trans HF1.out (by simp)).trans HS3.out (S := []) (fun y hy => .inr (by simp at hy; omega))).trans hfF (fun y hy => .inr (by simp at hy; omega)))
    have s0 := blk_cell HBC.out 0 (v := .slice va0 l.length vc0) rfl
    have s1 := blk_cell HBC.out 1 (v := .int .i64 (n : Int)) rfl
    have r0 := blk_cell hbF 0 rfl
    have r1 := blk_cell hbF 1 rfl
    have r2 := blk_cell hbF 2 rfl
    have r3 := blk_cell hbF 3 rfl
    have r4 := blk_cell hbF 4 rfl
    have r5 := blk_cell hbF 5 rfl
    have r6 := blk_cell hbF 6 rfl
    have r7 := blk_cell hbF 7 rfl
    have r8 := blk_cell hbF 8 rfl
    have r9 := blk_cell hbF 9 rfl
    have r10 := blk_cell hbF 10 rfl
    have r11 := blk_cell hbF 11 rfl
    have r12 := blk_cell hbF 12 rfl
    have r13 := blk_cell hbF 13 rfl
    have r14 := blk_cell hbF 14 rfl
    refine bodyPost_ret (v := .tuple #[.agg #[.slice va0 l.length vc0, .int .i64 n], zMsg, .bool false, .int .i64 KF]) (by simp [results, Tryd.results12, go_sem, zMsg, zCs, s0, s1, r0, r1, r2, r3, r4, r5, r6, r7, r8, r9, r10, r11, r12, r13, r14]) rfl ?_
    exact ⟨.inl ⟨HN.out.1, by rw [HN.out.2]⟩, HFF.out⟩
  have HKF := Lib.hid hkf
  have HKL := Lib.hid (HKK.out hkf)
  have hk1 : ((keyFault q (optZ q)) != 0) = false := by simpa using hkf
  rw [hkf] at hk1 ⊢
  clear hkf HKK
  have HOKR := Lib.hid (show ∀ (wx : World) (hx : Fr [] w1 wx), RdF wx (.slice ka L.length kc) L.length (fun j => .int .u8 ((L.getD j 0).toNat : Int)) from fun wx hx => HOK.out.rd.fr hx (fun b o c e => by simp))
  have HW1 := Lib.hid (show Fr [] w w1 from HF4.out.trans HF1.out (by simp))
  have HZ1 := Lib.hid (show w.heap.size + 1 + 1 + 1 + 1 ≤ w1.heap.size from Nat.le_trans HWZ.out HF1.out.size)
  obtain ⟨KL, hKL⟩ : ∃ K, keyL (q.Q 0) q.h.rd (optDo q) = K := ⟨_, rfl⟩
  rw [hKL] at HKL
  have HKLE := Lib.hid hKL
  clear hKL
  go_wp2_with fail
  go_loopw [12] (fun vi wr => ∃ (i : Nat), i ≤ l.length ∧ vi = .int .i64 i ∧ Hid (∀ j (hj : j < i) (hl : j < l.length), rOk L now l[j].1 = false) ∧ Fr [] w1 wr) (fun vi _ => l.length - (intOf vi).toNat)
  case atStart => exact ⟨0, by omega, rfl, Lib.hid (fun j hj => by omega), Fr.refl _ _⟩
  case round =>
    obtain ⟨i, hi, rfl, HNO, hf⟩ := hrel
    have HF := Lib.hid hf
    have HFW := Lib.hid (HF1.out.trans hf (by simp))
    clear hf
    obtain ⟨⟨a0, a1⟩, ⟨a2, a3⟩, a4, a5⟩ := HRET.out wr HFW.out
    by_cases hlt : i < l.length
    · clear a1 a2 a3 a4 a5
      obtain ⟨y, hy⟩ : ∃ y, l[i]'hlt = y := ⟨_, rfl⟩
      have HYE := Lib.hid hy
      have HFX := Lib.hid (show Fr [] w wr from HW1.out.trans HF.out (by simp))
      have HY := Lib.hid ((HC.out.all y (by rw [← hy]; exact List.getElem_mem _)).frH (HFX.out.hot0 Bx))
      obtain ⟨b1, o1, cc1, he1, _, _, _, hc1⟩ := (HC.out.rd.fr HFX.out).shape (by omega) (by decide)
      simp only [Value.slice.injEq, true_and] at he1
      obtain ⟨rfl, rfl⟩ := he1
      have HCE := Lib.hid (fun c hc => (hc1 i c hlt hc).trans (congrArg some (congrFun (show ((l[i]?.map (fun x => x.2.F x.1)).getD (fun _ => undef)) = y.2.F y.1 by rw [List.getElem?_eq_getElem hlt, hy]; rfl) c)))
      clear hc1
      have k0 : (0 : Int) ≤ (i : Int) := by omega
      have k3 : (i : Int) < (l.length : Int) := by omega
      have HSB := Lib.hid (fun (wx : World) (hx : Fr [] wr wx) => sameB_any wx y.2.ka ka y.1.key.length L.length y.2.kc kc (fun j => ((y.1.key.getD j 0).toNat : Int)) (fun j => ((L.getD j 0).toNat : Int)) (HY.out.key.fr hx (by simp)) (HOKR.out wx (HF.out.trans hx (by simp))) (by have := HY.out.key.le_cap; unfold maxLen at this; omega) (by have := (HOKR.out w1 (Fr.refl _ _)).le_cap; unfold maxLen at this; omega))
      rw [sameB_kEq] at HSB
      have HKY := Lib.hid (show y.2.k y.1 = .slice y.2.ka y.1.key.length y.2.kc from rfl)
      have HRO := Lib.hid (show rOk L now y.1 = (kEq y.1.key L && (decide (y.1.at_ ≤ now) && decide (now - y.1.at_ < y.1.life))) from rfl)
      have HAY := Lib.hid (And.intro (HAT.out y (by rw [← hy]; exact List.getElem_mem _)) (And.intro HY.out.at_ HY.out.life))
      obtain ⟨kb, hkb⟩ : ∃ kb, kEq y.1.key L = kb := ⟨_, rfl⟩
      rw [hkb] at HSB HRO
      have HYC := Lib.hid (fun c hc => reCs_get y.1 (y.2.k y.1) (y.2.q y.1) (y.2.a y.1) (y.2.u y.1) (y.2.m y.1) c hc)
      have HYS := Lib.hid (en_cs_size y.1 (y.2.k y.1) (y.2.q y.1) (y.2.a y.1) (y.2.u y.1) (y.2.m y.1))
      have HYV := Lib.hid (show y.2.V y.1 = .agg (reCs y.1 (y.2.k y.1) (y.2.q y.1) (y.2.a y.1) (y.2.u y.1) (y.2.m y.1)) from rfl)
      have HYM := Lib.hid (show ∀ c, c < 15 → (reCs y.1 (y.2.k y.1) (y.2.q y.1) (y.2.a y.1) (y.2.u y.1) (y.2.m y.1))[1 + c]? = (msgCs y.1.m.h (y.2.q y.1) (y.2.a y.1) (y.2.u y.1) (y.2.m y.1))[c]? from fun c hc => re_msg _ _ _ _ _ _ c hc)
      have HY0 := Lib.hid (show (reCs y.1 (y.2.k y.1) (y.2.q y.1) (y.2.a y.1) (y.2.u y.1) (y.2.m y.1))[0]? = some (.slice y.2.ka y.1.key.length y.2.kc) ∧ (reCs y.1 (y.2.k y.1) (y.2.q y.1) (y.2.a y.1) (y.2.u y.1) (y.2.m y.1))[16]? = some (.int .i64 y.1.at_) ∧ (reCs y.1 (y.2.k y.1) (y.2.q y.1) (y.2.a y.1) (y.2.u y.1) (y.2.m y.1))[17]? = some (.int .i64 y.1.life) from ⟨rfl, rfl, rfl⟩)
      have HONE := Lib.hid (show (reCs y.1 (y.2.k y.1) (y.2.q y.1) (y.2.a y.1) (y.2.u y.1) (y.2.m y.1)).all (·.oneCell') = true from by unfold reCs RV.k RV.q RV.a RV.u RV.m; simp [Value.oneCell'])
      obtain ⟨CY, hCY⟩ : ∃ C, reCs y.1 (y.2.k y.1) (y.2.q y.1) (y.2.a y.1) (y.2.u y.1) (y.2.m y.1) = C := ⟨_, rfl⟩
      rw [hCY] at HYC HYS HYV HYM HY0 HONE
      clear hCY hy
      have HYL := Lib.hid (show (Tryd.prog.info? 82).map (·.size) = some CY.toList.length from by
        rw [Array.length_toList, HYS.out]
        kernel_rfl)
      have HYZ := Lib.hid (show (Tryd.prog.info? 82).map (·.size) = some CY.size from by
        rw [HYS.out]
        kernel_rfl)
      have hr7 : wr.rangeAt b1 (o1 + i * 18) CY.toList := fun j u hj => by
        have hj18 : j < 18 := by
          have := (List.getElem?_eq_some_iff.1 hj).1
          rw [Array.length_toList, HYS.out] at this
          exact this
        have h2 := HYC.out j hj18
        have h3 : CY[j]? = some u := by rw [← Array.getElem?_toList]; exact hj
        rw [h2] at h3
        rw [← Option.some.inj h3]
        exact HCE.out j hj18
      have HKB := Lib.hid hkb
      clear hkb
      go_wp2_with (first
        | ((with_reducible refine wpList_loadArr ?_ 82 (.tmp 34) ?_ b1 (o1 + i * 18) ?_ CY _ ?_ Tryd.underlying82 ?_ ?_ ?_); rfl; rfl; rfl; exact hr7; rfl; exact HYL.out)
        | ((with_reducible refine wpList_storeArr ?_ 82 (.tmp 13) (.tmp 35) ?_ wr.heap.size CY #[.slice none 0 0, .int .i64 0, .bool false, .int .i64 0, .bool false, .bool false, .bool false, .bool false, .bool false, .bool false, .bool false, .int .i64 0, .slice none 0 0, .slice none 0 0, .slice none 0 0, .slice none 0 0, .int .i64 0, .int .i64 0] 82 ?_ ?_ ?_ ?_ ?_ ?_ ?_); rfl; rfl; rfl; rfl; exact heap_alloc_new wr _; exact HYS.out; exact HYZ.out; exact HONE.out; intro w9 hb9 hf9
           have HB9 := Lib.hid hb9
           have HF9 := Lib.hid (show Fr [] wr w9 from ((Fr.refl [] wr).alloc _).trans hf9 (fun x hx => .inr (by simp at hx; omega)))
           have g0 := blk_cell HB9.out 0 HY0.out.1
           have g16 := blk_cell HB9.out 16 HY0.out.2.1
           have g17 := blk_cell HB9.out 17 HY0.out.2.2
           clear hb9 hf9)
        | fail)
      refine (HSB.out _ HF9.out).mono ?_
      rintro ed wb ⟨rfl, nb, rfl⟩
      have HFB := Lib.hid (show Fr [] wr (w9.drewN nb) from HF9.out.drewN nb)
      have HBB := Lib.hid (show (w9.drewN nb).heap[wr.heap.size]? = some (.cells CY 82 (0, 0)) from HB9.out)
      clear HB9 HF9 HSB g0 g16 g17 a0
      generalize w9.drewN nb = wc at *
      have g16 := blk_cell HBB.out 16 HY0.out.2.1
      have g17 := blk_cell HBB.out 17 HY0.out.2.2
      obtain ⟨AT, hAT⟩ : ∃ t, y.1.at_ = t := ⟨_, rfl⟩
      obtain ⟨LI, hLI⟩ : ∃ t, y.1.life = t := ⟨_, rfl⟩
      rw [hAT] at HAY g16 HRO
      rw [hLI] at HAY g17 HRO
      have hw : AT ≤ now → IntKind.i64.wrap (now - AT) = now - AT := fun h => IntWalk.i64_in _ (by have := HAY.out; have := HNOW.out; omega)
      have HNX := Lib.hid (fun (hr : rOk L now y.1 = false) => show ∀ j (hj : j < i + 1) (hl : j < l.length), rOk L now l[j].1 = false from fun j hj hl => by
        by_cases h : j < i
        · exact HNO.out j h hl
        · obtain rfl : j = i := by omega
          rw [HYE.out]; exact hr)
      have HFR := Lib.hid (show Fr [] w1 wc from HF.out.trans HFB.out (by simp))
      by_cases hr : rOk L now y.1 = false
      case pos =>
        have HREL := Lib.hid (show ∃ i' : Nat, i' ≤ l.length ∧ (.int .i64 ((i : Int) + 1) : Value) = .int .i64 i' ∧ Hid (∀ j (hj : j < i') (hl : j < l.length), rOk L now l[j].1 = false) ∧ Fr [] w1 wc from ⟨i + 1, by omega, by go_num, Lib.hid (HNX.out hr), HFR.out⟩)
        have HLT := Lib.hid hlt
        rw [HRO.out] at hr
        clear HYE HNX HNO HF HFW HFR HAY HNOW hlt
        have hln : l.length ≤ 64 := hl
        cases kb
        case false =>
          have kb0 : (i : Int) ≤ 64 := by have := HLT.out; omega
          go_wp2
          go_roundw
          case rel => exact HREL.out
          case measure => (have := HLT.out; simp [intOf]; omega)
        case true =>
          by_cases hA : AT ≤ now
          · have hB : ¬ (now - AT < LI) := by
              intro hB
              rw [decide_eq_true hA, decide_eq_true hB] at hr
              cases hr
            have hw := hw hA
            have kb0 : (i : Int) ≤ 64 := by have := HLT.out; omega
            go_wp2
            go_roundw
            case rel => exact HREL.out
            case measure => (have := HLT.out; simp [intOf]; omega)
          · clear hw
            have kb0 : (i : Int) ≤ 64 := by have := HLT.out; omega
            go_wp2
            go_roundw
            case rel => exact HREL.out
            case measure => (have := HLT.out; simp [intOf]; omega)
      case neg =>
        have hr' : rOk L now y.1 = true := by simpa using hr
        obtain ⟨rfl, hA, hB⟩ : kb = true ∧ AT ≤ now ∧ now - AT < LI := by
          have h := HRO.out
          rw [hr'] at h
          have h2 := h.symm
          rw [Bool.and_eq_true, Bool.and_eq_true] at h2
          exact ⟨h2.1, of_decide_eq_true h2.2.1, of_decide_eq_true h2.2.2⟩
        have HR := Lib.hid hr'
        have hw := hw hA
        clear hr hr' HNX
        obtain ⟨CM, hCM⟩ : ∃ C, msgCs y.1.m.h (y.2.q y.1) (y.2.a y.1) (y.2.u y.1) (y.2.m y.1) = C := ⟨_, rfl⟩
        rw [hCM] at HYM
        have hMS : CM.size = 15 := by rw [← hCM]; rfl
        have HML := Lib.hid (show (Tryd.prog.info? 43).map (·.size) = some CM.toList.length from by
          rw [Array.length_toList, hMS]
          kernel_rfl)
        have HMS := Lib.hid hMS
        have hSW : ∀ wx, Fr [w.heap.size + 1 + 1, w.heap.size + 1 + 1 + 1] wc wx → Fr [] w wx ∧ w.heap.size + 1 + 1 + 1 + 1 ≤ wx.heap.size := fun wx hx => by
          have h := hx.size
          have h2 := HFR.out.size
          have h3 := HZ1.out
          exact ⟨((HW1.out.trans HFR.out (by simp)).trans hx (fun z hz => .inr (by simp at hz; omega))), by omega⟩
        have HSC := Lib.hid (fun (wx : World) (hx : Fr [w.heap.size + 1 + 1, w.heap.size + 1 + 1 + 1] wc wx) => show
          (wx.cell? ⟨w.heap.size, 0, none⟩ = some (.slice (some ⟨b1, o1, none⟩) l.length vc0) ∧ wx.cell? ⟨w.heap.size, 1, none⟩ = some (.int .i64 n)) ∧
          wx.rangeAt wr.heap.size 0 CY.toList ∧ wx.rangeAt (w.heap.size + 1) 0 CQ.toList ∧ wx.rangeAt wr.heap.size 1 CM.toList ∧ wx.cell? ⟨wr.heap.size, 16, none⟩ = some (.int .i64 AT) from by
            have hz := HZ1.out
            have hz2 := HF.out.size
            have hb0 := hx.blk ((HF1.out.trans HFR.out (by simp)).blk HB0.out (by simp)) (by intro h; simp only [List.mem_cons, List.not_mem_nil, or_false] at h; omega)
            have hb1 := hx.blk ((HF1.out.trans HFR.out (by simp)).blk HB1.out (by simp)) (by intro h; simp only [List.mem_cons, List.not_mem_nil, or_false] at h; omega)
            have hb2 := hx.blk HBB.out (by intro h; simp only [List.mem_cons, List.not_mem_nil, or_false] at h; omega)
            exact ⟨⟨blk_cell hb0 0 rfl, blk_cell hb0 1 rfl⟩, rng_arr hb2, rng_arr hb1, fun j u hj => blk_cell hb2 (1 + j) (by
              have hj15 : j < 15 := by
                have := (List.getElem?_eq_some_iff.1 hj).1
                rw [Array.length_toList, HMS.out] at this
                exact this
              rw [HYM.out j hj15, ← Array.getElem?_toList]; exact hj), blk_cell hb2 16 (by have h := HY0.out.2.1; rw [hAT] at h; exact h)⟩)
        have HRE := Lib.hid (fun (wx : World) (hx : Fr [w.heap.size + 1 + 1, w.heap.size + 1 + 1 + 1] wc wx) => show REn Bx wx y.1 y.2 from (HC.out.all y (by rw [← HYE.out]; exact List.getElem_mem _)).frH ((hSW wx hx).1.hot0 Bx))
        obtain ⟨LN, hLN⟩ : ∃ k, (withGo n y.1.key [y] l).length = k := ⟨_, rfl⟩
        obtain ⟨TM, hTM⟩ : ∃ T, tolM q y.1.m (now - AT) = T := ⟨_, rfl⟩
        have HWC := Lib.hid (show ∀ (wx : World) (hx : Fr [w.heap.size + 1 + 1, w.heap.size + 1 + 1 + 1] wc wx), Calls Tryd.prog 25 #[.agg #[.slice (some ⟨b1, o1, none⟩) l.length vc0, .int .i64 n], y.2.V y.1] wx (fun e w' => ∃ a c, e = .returned (.agg #[.slice a LN c, .int .i64 n]) ∧ RCa Bx w' (.slice a LN c) (withGo n y.1.key [y] l) ∧ Fr [] wx w') from by
          intro wx hx
          refine (HWI.out wx (hSW wx hx).1 (hSW wx hx).2 y (HRE.out wx hx)).mono ?_
          rintro e w' ⟨v', rfl, hra, hfa⟩
          obtain ⟨a, c, hv⟩ := hra.rd.slice
          rw [hLN] at hv
          subst hv
          exact ⟨a, c, rfl, hra, hfa⟩)
        have HTC := Lib.hid (fun (wx : World) (hx : Fr [w.heap.size + 1 + 1, w.heap.size + 1 + 1 + 1] wc wx) => HTT.out wx (hSW wx hx).1 (hSW wx hx).2 y (HRE.out wx hx) (now - AT))
        rw [hTM] at HTC
        have HTM := Lib.hid hTM
        clear hTM hLN
        have hMV : msgV y.1.m.h (y.2.q y.1) (y.2.a y.1) (y.2.u y.1) (y.2.m y.1) = .agg CM := by rw [← hCM]; rfl
        rw [HYV.out] at HWC
        rw [hMV] at HTC
        have HSW := Lib.hid hSW
        clear hSW hMV hCM hMS hr7 HWI HTT
        go_upto_region 9 with fail
        clear hw g16 g17
        refine wp_region_held_drew (S := fun wx => Fr [w.heap.size + 1 + 1, w.heap.size + 1 + 1 + 1] wc wx) (by kernel_rfl) ((Fr.refl _ _).drew) (fun hHeld => ?_)
        have BX6_0 := Lib.hid (((HF1.out.trans HFR.out (by simp)).drew).blk HB2.out (by simp))
        have BX7_0 := Lib.hid (((HF1.out.trans HFR.out (by simp)).drew).blk HB3.out (by simp))
        refine takeV (i := 0) 55 (Go.Op.load 34 (Go.Operand.tmp 3)) 34 (v := .agg #[.slice (some ⟨b1, o1, none⟩) l.length vc0, .int .i64 n]) (by kernel_rfl) (by kernel_rfl) (by kernel_rfl) (by kernel_rfl) (fun _ _ _ h => h) (Or.inl ⟨by rfl, ?_⟩) hHeld ?_
        case refine_1 => (intro wq hq; obtain ⟨⟨c0, c1⟩, _⟩ := HSC.out wq hq; dsimp only [opr]; go_simp; try (with_reducible rfl))
        try simp only [List.setIfInBounds_toArray, List.set_cons_zero, List.set_cons_succ]
        refine takeV (i := 1) 56 (Go.Op.load 82 (Go.Operand.tmp 13)) 82 (v := .agg CY) (by kernel_rfl) (by kernel_rfl) (by kernel_rfl) (by kernel_rfl) (fun _ _ _ h => h) (yieldsIf_load_arr (by rfl) 82 (Go.Operand.tmp 13) rfl wr.heap.size (0) (by go_simp) CY _ (fun wq hq => (HSC.out wq hq).2.1) Tryd.underlying82 rfl HYL.out) hHeld ?_
        try simp only [List.setIfInBounds_toArray, List.set_cons_zero, List.set_cons_succ]
        refine takeV (i := 3) 58 (Go.Op.load 43 (Go.Operand.tmp 4)) 43 (v := .agg CQ) (by kernel_rfl) (by kernel_rfl) (by kernel_rfl) (by kernel_rfl) (fun _ _ _ h => h) (yieldsIf_load_arr (by rfl) 43 (Go.Operand.tmp 4) rfl (w.heap.size + 1) (0) (by go_simp) CQ _ (fun wq hq => (HSC.out wq hq).2.2.1) Tryd.underlying43 rfl HQL.out) hHeld ?_
        try simp only [List.setIfInBounds_toArray, List.set_cons_zero, List.set_cons_succ]
        refine takeV (i := 4) 59 (Go.Op.fieldAddr 82 (Go.Operand.tmp 13) 1) 0 (v := ?_) (by kernel_rfl) (by kernel_rfl) (by kernel_rfl) (by kernel_rfl) (fun _ _ _ h => h) (Or.inl ⟨by rfl, ?_⟩) hHeld ?_
        case refine_2 => (intro wq hq; dsimp only [opr]; go_simp; try (with_reducible rfl))
        try simp only [List.setIfInBounds_toArray, List.set_cons_zero, List.set_cons_succ]
        refine takeV (i := 5) 60 (Go.Op.load 43 (Go.Operand.tmp 59)) 43 (v := .agg CM) (by kernel_rfl) (by kernel_rfl) (by kernel_rfl) (by kernel_rfl) (fun _ _ _ h => h) (yieldsIf_load_arr (by rfl) 43 (Go.Operand.tmp 59) rfl wr.heap.size (1) (by go_simp) CM _ (fun wq hq => (HSC.out wq hq).2.2.2.1) Tryd.underlying43 rfl HML.out) hHeld ?_
        try simp only [List.setIfInBounds_toArray, List.set_cons_zero, List.set_cons_succ]
        refine takeV (i := 6) 61 (Go.Op.move (Go.Operand.tmp 2)) 3 (v := ?_) (by kernel_rfl) (by kernel_rfl) (by kernel_rfl) (by kernel_rfl) (fun _ _ _ h => h) (Or.inl ⟨by rfl, ?_⟩) hHeld ?_
        case refine_2 => (intro wq hq; dsimp only [opr]; go_simp; try (with_reducible rfl))
        try simp only [List.setIfInBounds_toArray, List.set_cons_zero, List.set_cons_succ]
        refine takeV (i := 7) 62 (Go.Op.fieldAddr 82 (Go.Operand.tmp 13) 2) 0 (v := ?_) (by kernel_rfl) (by kernel_rfl) (by kernel_rfl) (by kernel_rfl) (fun _ _ _ h => h) (Or.inl ⟨by rfl, ?_⟩) hHeld ?_
        case refine_2 => (intro wq hq; dsimp only [opr]; go_simp; try (with_reducible rfl))
        try simp only [List.setIfInBounds_toArray, List.set_cons_zero, List.set_cons_succ]
        refine takeV (i := 8) 63 (Go.Op.load 3 (Go.Operand.tmp 62)) 3 (v := .int .i64 AT) (by kernel_rfl) (by kernel_rfl) (by kernel_rfl) (by kernel_rfl) (fun _ _ _ h => h) (Or.inl ⟨by rfl, ?_⟩) hHeld ?_
        case refine_1 => (intro wq hq; have c0 := (HSC.out wq hq).2.2.2.2; dsimp only [opr]; go_simp; try (with_reducible rfl))
        try simp only [List.setIfInBounds_toArray, List.set_cons_zero, List.set_cons_succ]
        refine takeV (i := 9) 64 (Go.Op.binOp Go.BinOp.sub 3 (Go.Operand.tmp 61) (Go.Operand.tmp 63) 3) 3 (v := .int .i64 (now - AT)) (by kernel_rfl) (by kernel_rfl) (by kernel_rfl) (by kernel_rfl) (fun _ _ _ h => h) (Or.inl ⟨by rfl, ?_⟩) hHeld ?_
        case refine_1 => (intro wq hq; have hw : IntKind.i64.wrap (now - AT) = now - AT := IntWalk.i64_in _ (by have := HAY.out; have := HNOW.out; omega); dsimp only [opr]; go_simp; try (with_reducible rfl))
        try simp only [List.setIfInBounds_toArray, List.set_cons_zero, List.set_cons_succ]
        refine wpAnyH_ready (rs := [2]) (by kernel_rfl) (by simp) ?_
        refine AllReadyH.consV (some 57) (Go.Op.call { callee := Go.Callee.value (Go.Operand.func 25), args := #[Go.Operand.tmp 55, Go.Operand.tmp 56], argTypes := #[34, 82] }) 34 (by kernel_rfl) (fun K hK => ?_) AllReadyH.nil
        refine opr_go 25 #[Go.Operand.tmp 55, Go.Operand.tmp 56] #[34, 82] (fun _ _ => by kernel_rfl) _ (vals2 (by go_simp) (by go_simp)) (HWC.out _ hHeld) ?_
        rintro e wx1 ⟨v4a, v4c, rfl, hra, hf1⟩
        refine ⟨_, rfl, ?_⟩
        have BX6_1 := Lib.hid (hf1.blk BX6_0.out (by simp))
        have BX7_1 := Lib.hid (hf1.blk BX7_0.out (by simp))
        have RC_1 := Lib.hid (hra)
        have hS2 := hHeld.trans hf1 (by simp)
        clear hf1 hHeld hra
        refine hK.out _ _ hS2 (fun hHeld => ?_)
        clear hK K hS2
        try simp only [List.setIfInBounds_toArray, List.set_cons_zero, List.set_cons_succ]
        refine wpAnyH_ready (rs := [10]) (by kernel_rfl) (by simp) ?_
        refine AllReadyH.consV (some 65) (Go.Op.call { callee := Go.Callee.value (Go.Operand.func 31), args := #[Go.Operand.tmp 58, Go.Operand.tmp 60, Go.Operand.tmp 64], argTypes := #[43, 43, 3] }) 43 (by kernel_rfl) (fun K hK => ?_) AllReadyH.nil
        refine opr_go 31 #[Go.Operand.tmp 58, Go.Operand.tmp 60, Go.Operand.tmp 64] #[43, 43, 3] (fun _ _ => by kernel_rfl) _ (vals3 (by go_simp) (by go_simp) (by go_simp)) (HTC.out _ hHeld) ?_
        rintro e wx2 ⟨tq, tu, tm, rfl, hmb, hf2⟩
        have HON := Lib.hid hmb.one_cells
        refine ⟨_, rfl, ?_⟩
        have BX6_2 := Lib.hid (hf2.blk BX6_1.out (by simp))
        have BX7_2 := Lib.hid (hf2.blk BX7_1.out (by simp))
        have RC_2 := Lib.hid (RC_1.out.frH (hf2.hot0 Bx))
        have MO_2 := Lib.hid (hmb)
        have hS2 := hHeld.trans hf2 (by simp)
        clear hf2 hHeld hmb
        refine hK.out _ _ hS2 (fun hHeld => ?_)
        clear hK K hS2
        try simp only [List.setIfInBounds_toArray, List.set_cons_zero, List.set_cons_succ]
        refine wpAnyH_ready (rs := [11]) (by kernel_rfl) (by simp) ?_
        refine AllReadyH.consV none (Go.Op.store 34 (Go.Operand.tmp 6) (Go.Operand.tmp 57)) 0 (by kernel_rfl) (fun K hK => ?_) AllReadyH.nil
        refine opr_store 34 (Go.Operand.tmp 6) (Go.Operand.tmp 57) (w.heap.size + 1 + 1) #[.slice v4a LN v4c, .int .i64 n] #[.slice none 0 0, .int .i64 0] 34 (by go_simp) (by go_simp; try rfl) BX6_2.out rfl (by kernel_rfl) (by simp [Value.oneCell']) ?_
        intro wx3 hb3 hf3
        have BX6_3 := Lib.hid (hb3)
        have BX7_3 := Lib.hid (hf3.blk BX7_2.out (by simp))
        have RC_3 := Lib.hid (RC_2.out.frH (hf3.hot Bx (fun x hx _ => .inr (by simp only [List.mem_cons, List.not_mem_nil, or_false] at hx; subst hx; exact HBK.out.2.2.2.1))))
        have MO_3 := Lib.hid (MO_2.out.frH (hf3.hot Bx (fun x hx _ => .inr (by simp only [List.mem_cons, List.not_mem_nil, or_false] at hx; subst hx; exact HBK.out.2.2.2.1))))
        have hS2 := hHeld.trans hf3 (fun x hx => .inl (by simp at hx; simp [hx]))
        clear hf3 hHeld hb3
        refine hK.out _ _ hS2 (fun hHeld => ?_)
        clear hK K hS2
        try simp only [List.setIfInBounds_toArray, List.set_cons_zero, List.set_cons_succ]
        refine wpAnyH_ready (rs := [12]) (by kernel_rfl) (by simp) ?_
        refine AllReadyH.consV none (Go.Op.store 43 (Go.Operand.tmp 7) (Go.Operand.tmp 65)) 0 (by kernel_rfl) (fun K hK => ?_) AllReadyH.nil
        refine opr_store 43 (Go.Operand.tmp 7) (Go.Operand.tmp 65) (w.heap.size + 1 + 1 + 1) (msgCs TM.h vq tq tu tm) #[.int .i64 0, .bool false, .int .i64 0, .bool false, .bool false, .bool false, .bool false, .bool false, .bool false, .bool false, .int .i64 0, .slice none 0 0, .slice none 0 0, .slice none 0 0, .slice none 0 0] 43 (by go_simp) (by go_simp; try rfl) BX7_3.out rfl (by kernel_rfl) HON.out ?_
        intro wx4 hb4 hf4
        have BX6_4 := Lib.hid (hf4.blk BX6_3.out (by simp))
        have BX7_4 := Lib.hid (hb4)
        have RC_4 := Lib.hid (RC_3.out.frH (hf4.hot Bx (fun x hx _ => .inr (by simp only [List.mem_cons, List.not_mem_nil, or_false] at hx; subst hx; exact HBK.out.2.2.2.2))))
        have MO_4 := Lib.hid (MO_3.out.frH (hf4.hot Bx (fun x hx _ => .inr (by simp only [List.mem_cons, List.not_mem_nil, or_false] at hx; subst hx; exact HBK.out.2.2.2.2))))
        have hS2 := hHeld.trans hf4 (fun x hx => .inl (by simp at hx; simp [hx]))
        clear hf4 hHeld hb4
        refine hK.out _ _ hS2 (fun hHeld => ?_)
        clear hK K hS2
        try simp only [List.setIfInBounds_toArray, List.set_cons_zero, List.set_cons_succ]
        refine takeV (i := 13) 8 (Go.Op.assign (Go.Operand.const (Go.Value.bool true))) 4 (v := ?_) (by kernel_rfl) (by kernel_rfl) (by kernel_rfl) (by kernel_rfl) (fun _ _ _ h => h) (Or.inl ⟨by rfl, ?_⟩) hHeld ?_
        case refine_2 => (intro wq hq; dsimp only [opr]; go_simp; try (with_reducible rfl))
        try simp only [List.setIfInBounds_toArray, List.set_cons_zero, List.set_cons_succ]
        refine takeV (i := 14) 9 (Go.Op.assign (Go.Operand.const (Go.Value.int Go.IntKind.i64 0))) 25 (v := ?_) (by kernel_rfl) (by kernel_rfl) (by kernel_rfl) (by kernel_rfl) (fun _ _ _ h => h) (Or.inl ⟨by rfl, ?_⟩) hHeld ?_
        case refine_2 => (intro wq hq; dsimp only [opr]; go_simp; try (with_reducible rfl))
        try simp only [List.setIfInBounds_toArray, List.set_cons_zero, List.set_cons_succ]
        refine wpAnyH_done (by kernel_rfl) ?_ _
        have HFF := Lib.hid (HSW.out wx4 hHeld).1
        clear hHeld
        have s0 := blk_cell BX6_4.out 0 (v := .slice v4a LN v4c) rfl
        have s1 := blk_cell BX6_4.out 1 (v := .int .i64 (n : Int)) rfl
        have r0 := blk_cell BX7_4.out 0 (v := .int .i64 TM.h.id) rfl
        have r1 := blk_cell BX7_4.out 1 (v := .bool TM.h.an) rfl
        have r2 := blk_cell BX7_4.out 2 (v := .int .i64 TM.h.op) rfl
        have r3 := blk_cell BX7_4.out 3 (v := .bool TM.h.aa) rfl
        have r4 := blk_cell BX7_4.out 4 (v := .bool TM.h.tc) rfl
        have r5 := blk_cell BX7_4.out 5 (v := .bool TM.h.rd) rfl
        have r6 := blk_cell BX7_4.out 6 (v := .bool TM.h.ra) rfl
        have r7 := blk_cell BX7_4.out 7 (v := .bool TM.h.z) rfl
        have r8 := blk_cell BX7_4.out 8 (v := .bool TM.h.ad) rfl
        have r9 := blk_cell BX7_4.out 9 (v := .bool TM.h.cd) rfl
        have r10 := blk_cell BX7_4.out 10 (v := .int .i64 TM.h.code) rfl
        have r11 := blk_cell BX7_4.out 11 (v := vq) rfl
        have r12 := blk_cell BX7_4.out 12 (v := tq) rfl
        have r13 := blk_cell BX7_4.out 13 (v := tu) rfl
        have r14 := blk_cell BX7_4.out 14 (v := tm) rfl
        go_wp2_with fail
        refine bodyPost_ret (v := .tuple #[.agg #[.slice v4a LN v4c, .int .i64 n], msgV TM.h vq tq tu tm, .bool true, .int .i64 0]) (by simp [results, Tryd.results12, go_sem, msgV, s0, s1, r0, r1, r2, r3, r4, r5, r6, r7, r8, r9, r10, r11, r12, r13, r14]) rfl ?_
        have hg : gIx L now l = i := gIx_hit hlt (fun j hj => HNO.out j hj (by omega)) (by rw [HYE.out]; exact HR.out)
        rw [HKL.out] at hg
        have hx : ∀ (h : gIx KL now l < l.length), l[gIx KL now l]'h = y := fun h => by
          rw [← HYE.out]
          exact get_congrR hg h hlt
        unfold RGetGood
        rw [HKLE.out]
        refine ⟨.inr (.inr ⟨HKF.out, by rw [hg]; exact hlt, .slice v4a LN v4c, tq, tu, tm, ?_⟩), HFF.out⟩
        rw [hx, hAT, HTM.out]
        exact ⟨rfl, MO_4.out.turn HBK.out.1.symm (fun x hx => .inl (HBK.out.2.1 x hx)), RC_4.out.turn HBK.out.1.symm (fun x hx => .inl (HBK.out.2.1 x hx))⟩
    · have hii : i = l.length := by omega
      have HG := Lib.hid (show gIx L now l = l.length from gIx_miss (fun j hj => HNO.out j (by omega) hj))
      have k3 : ¬ (i : Int) < (l.length : Int) := by omega
      clear a0 a1 a2 a3 a4 a5 hii hlt
      obtain ⟨⟨a0, a1⟩, ⟨a2, a3⟩, a4, a5⟩ := HRET.out wr HFW.out
      obtain ⟨hs1, hs2, hs3⟩ := HST.out wr HFW.out (.slice va0 l.length vc0)
      have HS1 := Lib.hid hs1
      have HS2 := Lib.hid hs2
      have HS3 := Lib.hid hs3
      clear hs1 hs2 hs3
      go_wp2_with (first
        | ((with_reducible refine wpList_storeArr ?_ 43 (.tmp 7) (.tmp 67) ?_ (w.heap.size + 1 + 1 + 1) zCs #[.int .i64 0, .bool false, .int .i64 0, .bool false, .bool false, .bool false, .bool false, .bool false, .bool false, .bool false, .int .i64 0, .slice none 0 0, .slice none 0 0, .slice none 0 0, .slice none 0 0] 43 ?_ ?_ ?_ ?_ ?_ ?_ ?_); rfl; rfl; rfl; rfl; exact HS2.out; rfl; kernel_rfl; exact zCs_one; intro wF hbF hfF)
        | fail)
      have HBC := Lib.hid (hfF.blk HS1.out (by simp))
      have HFF := Lib.hid (show Fr [] w wF from ((HF4.out.trans HFW.out (by simp)).trans HS3.out (S := []) (fun y hy => .inr (by simp at hy; omega))).trans hfF (fun y hy => .inr (by simp at hy; omega)))
      have s0 := blk_cell HBC.out 0 (v := .slice va0 l.length vc0) rfl
      have s1 := blk_cell HBC.out 1 (v := .int .i64 (n : Int)) rfl
      have r0 := blk_cell hbF 0 rfl
      have r1 := blk_cell hbF 1 rfl
      have r2 := blk_cell hbF 2 rfl
      have r3 := blk_cell hbF 3 rfl
      have r4 := blk_cell hbF 4 rfl
      have r5 := blk_cell hbF 5 rfl
      have r6 := blk_cell hbF 6 rfl
      have r7 := blk_cell hbF 7 rfl
      have r8 := blk_cell hbF 8 rfl
      have r9 := blk_cell hbF 9 rfl
      have r10 := blk_cell hbF 10 rfl
      have r11 := blk_cell hbF 11 rfl
      have r12 := blk_cell hbF 12 rfl
      have r13 := blk_cell hbF 13 rfl
      have r14 := blk_cell hbF 14 rfl
      refine bodyPost_ret (v := .tuple #[.agg #[.slice va0 l.length vc0, .int .i64 n], zMsg, .bool false, .int .i64 0]) (by simp [results, Tryd.results12, go_sem, zMsg, zCs, s0, s1, r0, r1, r2, r3, r4, r5, r6, r7, r8, r9, r10, r11, r12, r13, r14]) rfl ?_
      exact ⟨.inr (.inl ⟨HKF.out, by rw [HKLE.out, ← HKL.out]; exact HG.out, rfl⟩), HFF.out⟩

end Go.Proofs.YtkdmkpdooiacaaaDoor
