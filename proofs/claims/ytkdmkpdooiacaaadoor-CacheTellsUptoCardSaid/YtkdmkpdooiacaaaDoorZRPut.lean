/- The reference's Put. -/
import Derived.Test.YtkdmkpdooiacaaaDoorZRKeyOf
import Derived.Test.YtkdmkpdooiacaaaDoorZRWith
import Derived.Test.YtkdmkpdooiacaaaDoorZAsks
import Derived.Test.YtkdmkpdooiacaaaDoorZLives
import Derived.Test.YtkdmkpdooiacaaaDoorZPutW
namespace Go.Proofs.YtkdmkpdooiacaaaDoor
open Go.RowKit

/-- what Put leaves -/
def RPutGood (w : World) (B : HB) (v : Value) (n : Nat) (l : List (En × RV)) (q a : Ms) (now : Int) (e : Ending) (w' : World) : Prop :=
  ((putZ q a (optZ q) now ≠ 0 ∧ e = .returned (.tuple #[.agg #[v, .int .i64 n], .int .i64 (putZ q a (optZ q) now)])) ∨
    (putZ q a (optZ q) now = 0 ∧ ∃ v' r, e = .returned (.tuple #[.agg #[v', .int .i64 n], .int .i64 0]) ∧ RCa B w' v' (withGo n (keyL (q.Q 0) q.h.rd (optDo q)) [(⟨keyL (q.Q 0) q.h.rd (optDo q), a, now, lifeV a⟩, r)] l))) ∧ Fr [] w w'

theorem four_newR (w : World) (x y z u : Obj) : ((((w.alloc x).alloc y).alloc z).alloc u).heap[w.heap.size]? = some x ∧ ((((w.alloc x).alloc y).alloc z).alloc u).heap[w.heap.size + 1]? = some y ∧ ((((w.alloc x).alloc y).alloc z).alloc u).heap[w.heap.size + 1 + 1]? = some z ∧ ((((w.alloc x).alloc y).alloc z).alloc u).heap[w.heap.size + 1 + 1 + 1]? = some u ∧ Fr [] w ((((w.alloc x).alloc y).alloc z).alloc u) := by
  obtain ⟨h1, h2, h3⟩ := three_newA w x y z
  have s3 : (((w.alloc x).alloc y).alloc z).heap.size = w.heap.size + 1 + 1 + 1 := by simp
  have hf : Fr [] (((w.alloc x).alloc y).alloc z) ((((w.alloc x).alloc y).alloc z).alloc u) := (Fr.refl [] _).alloc u
  refine ⟨hf.blk h1 (by simp), hf.blk h2 (by simp), hf.blk h3 (by simp), ?_, (((Fr.refl [] w).alloc x).alloc y).alloc z |>.alloc u⟩
  rw [← s3]
  exact heap_alloc_new _ u

theorem REn.turn {B B' : HB} {w : World} {e : En} {r : RV} (hn : B'.n = B.n) (hs : ∀ x ∈ B'.s, x ∈ B.s ∨ w.heap.size ≤ x) (h : REn B w e r) : REn B' w e r :=
  ⟨h.key, h.cold.turn hn hs, h.ms.turn hn hs, h.at_, h.life⟩

theorem RCa.turn {B B' : HB} {w : World} {v : Value} {l : List (En × RV)} (hn : B'.n = B.n) (hs : ∀ x ∈ B'.s, x ∈ B.s ∨ w.heap.size ≤ x) (h : RCa B w v l) : RCa B' w v l :=
  ⟨h.rd, h.cd.turn hn hs, fun x hx => (h.all x hx).turn hn hs⟩

/-- a load of a struct whose cells are a letter, where its guard says yes -/
theorem wpList_loadArrG {P : Program} {ops : Array Oper} {o : Oper} {a : Act} {w : World} {Q : Exit → Act → World → Prop} {rest : List Oper} (hw : Region.wanted o (yielded ops a.tmps) = true) (ty : TypeId) (x : Operand) (ho : o.op = .load ty x) (b off : Nat) (hx : a.eval x = .pointer (some ⟨b, off, none⟩)) (cs : Array Value) (d : TypeDesc) (hc : w.rangeAt b off cs.toList)
    (hu : P.underlying ty = some d) (hd : d.isRow = true) (hi : (P.info? ty).map (·.size) = some cs.toList.length)
    (h : wpList P ops Q rest (a.put o.dst (.agg cs)) w) : wpList P ops Q (o :: rest) a w :=
  BigFrame.wpList_want hw fun K hK => wp_load_mid ty x ho b off hx cs.toList d hc hu hd hi (hK _ _ (by simpa using h))

set_option maxHeartbeats 8000000 in
set_option maxRecDepth 100000 in
theorem rput_any (w : World) (B : HB) (hS : ∀ x ∈ B.s, x < w.heap.size) (v : Value) (l : List (En × RV)) (n : Nat) (hn1 : 1 ≤ n) (hn : n ≤ 64) (hl : l.length ≤ 64) (hC : RCa B w v l) (q a : Ms) (vq va vu vm xq xa xu xm : Value)
    (hq : MsOk B w q vq va vu vm) (ha : MsOk B w a xq xa xu xm) (hsm : ∀ i, i < q.mn → (q.M i).dl ≤ 1099511627776) (hsz : (a.an + a.un + a.mn + a.mn) * 72 ≤ 140737488355328) (now : Int) (hnow : -9223372036854775808 ≤ now ∧ now ≤ 9223372036854775807) :
    Calls Tryd.prog 10 #[.agg #[v, .int .i64 n], msgV q.h vq va vu vm, msgV a.h xq xa xu xm, .int .i64 now] w (RPutGood w B v n l q a now) := by
  obtain ⟨Bx, hBx⟩ : ∃ X : HB, X = ⟨B.n, (w.heap.size + 1 + 1 + 1) :: B.s⟩ := ⟨_, rfl⟩
  have hxs : ∀ x ∈ Bx.s, x ∈ B.s ∨ w.heap.size ≤ x := fun x hx => by
    rw [hBx] at hx
    rcases List.mem_cons.1 hx with rfl | hx
    · exact .inr (by omega)
    · exact .inl hx
  have HBK := Lib.hid (show Bx.n = B.n ∧ (∀ x ∈ B.s, x ∈ Bx.s) ∧ (∀ x ∈ Bx.s, x < w.heap.size + 1 + 1 + 1 + 1) ∧ w.heap.size + 1 + 1 + 1 ∈ Bx.s from by
    rw [hBx]
    refine ⟨rfl, fun x hx => List.mem_cons_of_mem _ hx, fun x hx => ?_, List.mem_cons_self⟩
    rcases List.mem_cons.1 hx with rfl | hx
    · omega
    · have := hS x hx; omega)
  have hC := hC.turn HBK.out.1 hxs
  have hq := hq.turn HBK.out.1 hxs
  have ha := ha.turn HBK.out.1 hxs
  clear hxs hBx
  have HPZ := Lib.hid (show putZ q a (optZ q) now = if keyFault q (optZ q) ≠ 0 then keyFault q (optZ q) else if (a.h.an && alikeF q a) = false then 1 else if now < 0 then 6 else lifeZ a from rfl)
  have HKEY := Lib.hid (fun (wx : World) (hx : Fr [] w wx) => keyOf_any wx Bx q vq va vu vm (hq.frH (hx.hot0 Bx)) hsm)
  have HAL := Lib.hid (fun (wx : World) (hx : Fr [] w wx) => asks_any wx Bx a q xq xa xu xm vq va vu vm (ha.frH (hx.hot0 Bx)) (hq.frH (hx.hot0 Bx)))
  have HLV := Lib.hid (fun (wx : World) (hx : Fr [] w wx) (hz : w.heap.size + 1 + 1 + 1 + 1 ≤ wx.heap.size) => lives_any wx Bx a xq xa xu xm (ha.frH (hx.hot0 Bx)) (fun x h => Nat.lt_of_lt_of_le (HBK.out.2.2.1 x h) hz) (by omega))
  rw [alikeF_symm a q] at HAL
  have HA := Lib.hid ha
  have HLF := Lib.hid (fun (h : lifeZ a = 0) => life_ok h)
  obtain ⟨_, g0⟩ := ha.hq
  obtain ⟨_, g1⟩ := ha.ha
  obtain ⟨_, g2⟩ := ha.hu
  obtain ⟨_, g3⟩ := ha.hm
  obtain ⟨aq, aqc, rfl⟩ := g0.rd.slice
  obtain ⟨aa, aac, rfl⟩ := g1.rd.slice
  obtain ⟨au, auc, rfl⟩ := g2.rd.slice
  obtain ⟨am, amc, rfl⟩ := g3.rd.slice
  have HWI := Lib.hid (fun (wx : World) (hx : Fr [] w wx) (hz : w.heap.size + 1 + 1 + 1 + 1 ≤ wx.heap.size) (x : En × RV) (hr : REn Bx wx x.1 x.2) => with_any wx Bx (fun y h => Nat.lt_of_lt_of_le (HBK.out.2.2.1 y h) hz) v l n hn1 hn hl (hC.frH (hx.hot0 Bx)) x hr)
  obtain ⟨va0, vc0, rfl⟩ := hC.rd.slice
  have HNOW := Lib.hid hnow
  clear g0 g1 g2 g3 hq ha hC hS hnow hsz hsm
  -- the messages' cells
  have hQV : msgV q.h vq va vu vm = .agg (msgCs q.h vq va vu vm) := rfl
  have hQS : (msgCs q.h vq va vu vm).size = 15 := rfl
  have hAV : msgV a.h (.slice aq a.qn aqc) (.slice aa a.an aac) (.slice au a.un auc) (.slice am a.mn amc) = .agg (msgCs a.h (.slice aq a.qn aqc) (.slice aa a.an aac) (.slice au a.un auc) (.slice am a.mn amc)) := rfl
  have hAS : (msgCs a.h (.slice aq a.qn aqc) (.slice aa a.an aac) (.slice au a.un auc) (.slice am a.mn amc)).size = 15 := rfl
  have HA1 := Lib.hid (show (msgCs a.h (.slice aq a.qn aqc) (.slice aa a.an aac) (.slice au a.un auc) (.slice am a.mn amc))[1]? = some (.bool a.h.an) from rfl)
  have HAC := Lib.hid (show (msgCs a.h (.slice aq a.qn aqc) (.slice aa a.an aac) (.slice au a.un auc) (.slice am a.mn amc)).toList = [.int .i64 a.h.id, .bool a.h.an, .int .i64 a.h.op, .bool a.h.aa, .bool a.h.tc, .bool a.h.rd, .bool a.h.ra, .bool a.h.z, .bool a.h.ad, .bool a.h.cd, .int .i64 a.h.code, .slice aq a.qn aqc, .slice aa a.an aac, .slice au a.un auc, .slice am a.mn amc] from rfl)
  rw [hQV] at HKEY HAL
  rw [hAV] at HAL HLV
  rw [hQV, hAV]
  clear hQV hAV
  obtain ⟨CQ, hCQ⟩ : ∃ C, msgCs q.h vq va vu vm = C := ⟨_, rfl⟩
  obtain ⟨CA, hCA⟩ : ∃ C, msgCs a.h (.slice aq a.qn aqc) (.slice aa a.an aac) (.slice au a.un auc) (.slice am a.mn amc) = C := ⟨_, rfl⟩
  rw [hCQ] at HKEY HAL hQS ⊢
  rw [hCA] at HAL HLV hAS HA1 HAC ⊢
  clear hCQ hCA
  have HQL := Lib.hid (show (Tryd.prog.info? 43).map (·.size) = some CQ.toList.length from by
    rw [Array.length_toList, hQS]
    kernel_rfl)
  have HAL2 := Lib.hid (show (Tryd.prog.info? 43).map (·.size) = some CA.toList.length from by
    rw [Array.length_toList, hAS]
    kernel_rfl)
  clear hQS hAS
  obtain ⟨hb0, hb1, hb2, hb3, hf4⟩ := four_newR w (.cells #[.slice va0 l.length vc0, .int .i64 n] 34) (.cells CQ 43) (.cells CA 43) (.cells #[.slice none 0 0, .int .i64 0] 34)
  have HB0 := Lib.hid hb0
  have HB1 := Lib.hid hb1
  have HB2 := Lib.hid hb2
  have HB3 := Lib.hid hb3
  have HF4 := Lib.hid hf4
  have HWZ := Lib.hid (show w.heap.size + 1 + 1 + 1 + 1 ≤ ((((w.alloc (.cells #[.slice va0 l.length vc0, .int .i64 n] 34)).alloc (.cells CQ 43)).alloc (.cells CA 43)).alloc (.cells #[.slice none 0 0, .int .i64 0] 34)).heap.size from by simp)
  clear hb0 hb1 hb2 hb3 hf4
  have hr1 := rng_arr HB1.out
  go_enter Tryd.func10, Tryd.ntmps10
  go_wp2_with (first
    | ((with_reducible refine wpList_loadArr ?_ 43 (.tmp 5) ?_ (w.heap.size + 1) 0 ?_ CQ _ ?_ Tryd.underlying43 ?_ ?_ ?_); rfl; rfl; rfl; exact hr1; rfl; exact HQL.out)
    | fail)
  clear hr1
  generalize (((w.alloc (.cells #[.slice va0 l.length vc0, .int .i64 n] 34)).alloc (.cells CQ 43)).alloc (.cells CA 43)).alloc (.cells #[.slice none 0 0, .int .i64 0] 34) = W at *
  refine (HKEY.out W HF4.out).mono ?_
  rintro e w1 ⟨ka, kc, L, rfl, hok, ⟨hkk, _⟩, hf1⟩
  have HOK := Lib.hid hok
  have HKK := Lib.hid hkk
  have HF1 := Lib.hid hf1
  clear hok hkk hf1 HKEY
  -- a return with the cache as it was
  have HRET := Lib.hid (fun (wx : World) (h : Fr [] W wx) => show (wx.cell? ⟨w.heap.size, 0, none⟩ = some (.slice va0 l.length vc0) ∧ wx.cell? ⟨w.heap.size, 1, none⟩ = some (.int .i64 n)) ∧ (wx.cell? ⟨w.heap.size + 1 + 1 + 1, 0, none⟩ = some (.slice none 0 0) ∧ wx.cell? ⟨w.heap.size + 1 + 1 + 1, 1, none⟩ = some (.int .i64 0)) ∧ (wx.frozen? ⟨w.heap.size + 1 + 1 + 1, 0, none⟩ = false ∧ wx.frozen? ⟨w.heap.size + 1 + 1 + 1, 1, none⟩ = false) from
    ⟨⟨blk_cell (h.blk HB0.out (by simp)) 0 rfl, blk_cell (h.blk HB0.out (by simp)) 1 rfl⟩, ⟨blk_cell (h.blk HB3.out (by simp)) 0 rfl, blk_cell (h.blk HB3.out (by simp)) 1 rfl⟩, blk_frozen (h.blk HB3.out (by simp)) 0, blk_frozen (h.blk HB3.out (by simp)) 1⟩)
  have HSET := Lib.hid (fun (wx : World) (h : Fr [] W wx) (u : Value) => show ((wx.setCell ⟨w.heap.size + 1 + 1 + 1, 0, none⟩ u).setCell ⟨w.heap.size + 1 + 1 + 1, 1, none⟩ (.int .i64 n)).heap[w.heap.size + 1 + 1 + 1]? = some (.cells #[u, .int .i64 n] 34 (0, 0)) ∧ Fr [] w ((wx.setCell ⟨w.heap.size + 1 + 1 + 1, 0, none⟩ u).setCell ⟨w.heap.size + 1 + 1 + 1, 1, none⟩ (.int .i64 n)) from
    ⟨blk_set2 (h.blk HB3.out (by simp)) u (.int .i64 n), ((HF4.out.trans h (by simp)).setCell (p := ⟨w.heap.size + 1 + 1 + 1, 0, none⟩) (.inr (by show w.heap.size ≤ w.heap.size + 1 + 1 + 1; omega)) _).setCell (p := ⟨w.heap.size + 1 + 1 + 1, 1, none⟩) (.inr (by show w.heap.size ≤ w.heap.size + 1 + 1 + 1; omega)) _⟩)
  by_cases hkf : keyFault q (optZ q) = 0
  case neg =>
    have hpz := HPZ.out
    rw [if_pos hkf] at hpz
    have HP := Lib.hid hpz
    generalize hKF : keyFault q (optZ q) = KF at *
    have hk1 : (KF != 0) = true := by simpa using hkf
    have HN := Lib.hid hkf
    clear hpz hkf hKF
    obtain ⟨⟨a0, a1⟩, ⟨a2, a3⟩, a4, a5⟩ := HRET.out w1 HF1.out
    obtain ⟨hs1, hs2⟩ := HSET.out w1 HF1.out (.slice va0 l.length vc0)
    have HS1 := Lib.hid hs1
    have HS2 := Lib.hid hs2
    clear hs1 hs2
    go_wp2_with fail
    have r0 := blk_cell HS1.out 0 rfl
    have r1 := blk_cell HS1.out 1 rfl
    refine bodyPost_ret (v := .tuple #[.agg #[.slice va0 l.length vc0, .int .i64 n], .int .i64 KF]) (by simp [results, Tryd.results10, go_sem, r0, r1]) rfl ?_
    exact ⟨.inl ⟨by rw [HP.out]; exact HN.out, by rw [HP.out]⟩, HS2.out⟩
  have hpz := HPZ.out
  rw [if_neg (by simp [hkf])] at hpz
  have HKF := Lib.hid hkf
  have HK0 := Lib.hid (HKK.out hkf)
  rw [hkf]
  generalize alikeF q a = AK at *
  have m1 := blk_cell (HF1.out.blk HB2.out (by simp)) 1 HA1.out
  clear hkf HPZ
  by_cases han : a.h.an = true
  case neg =>
    have han' : a.h.an = false := by simpa using han
    rw [han', Bool.false_and, if_pos rfl] at hpz
    have HP := Lib.hid hpz
    rw [han'] at m1
    clear hpz han han'
    obtain ⟨⟨a0, a1⟩, ⟨a2, a3⟩, a4, a5⟩ := HRET.out w1 HF1.out
    obtain ⟨hs1, hs2⟩ := HSET.out w1 HF1.out (.slice va0 l.length vc0)
    have HS1 := Lib.hid hs1
    have HS2 := Lib.hid hs2
    clear hs1 hs2
    go_wp2_with fail
    have r0 := blk_cell HS1.out 0 rfl
    have r1 := blk_cell HS1.out 1 rfl
    refine bodyPost_ret (v := .tuple #[.agg #[.slice va0 l.length vc0, .int .i64 n], .int .i64 1]) (by simp [results, Tryd.results10, go_sem, r0, r1]) rfl ?_
    exact ⟨.inl ⟨by rw [HP.out]; decide, by rw [HP.out]⟩, HS2.out⟩
  rw [han, Bool.true_and] at hpz
  rw [han] at m1
  have hrq := rng_arr (HF1.out.blk HB1.out (by simp))
  have hra := rng_arr (HF1.out.blk HB2.out (by simp))
  clear han
  go_wp2_with (first
    | ((with_reducible refine wpList_loadArrG ?_ 43 (.tmp 5) ?_ (w.heap.size + 1) 0 ?_ CQ _ ?_ Tryd.underlying43 ?_ ?_ ?_); rfl; rfl; rfl; exact hrq; rfl; exact HQL.out)
    | ((with_reducible refine wpList_loadArrG ?_ 43 (.tmp 6) ?_ (w.heap.size + 1 + 1) 0 ?_ CA _ ?_ Tryd.underlying43 ?_ ?_ ?_); rfl; rfl; rfl; exact hra; rfl; exact HAL2.out)
    | fail)
  refine (HAL.out w1 (HF4.out.trans HF1.out (by simp))).mono ?_
  rintro e w2 ⟨rfl, hf2⟩
  have HF2 := Lib.hid (HF1.out.trans hf2 (by simp))
  have HO2 := Lib.hid (OwnF.kept HOK.out hf2 (fun _ _ => by simp))
  clear hrq hra m1 hf2 HOK HAL
  cases AK with
  | false =>
    rw [if_pos rfl] at hpz
    have HP := Lib.hid hpz
    clear hpz
    obtain ⟨⟨a0, a1⟩, ⟨a2, a3⟩, a4, a5⟩ := HRET.out w2 HF2.out
    obtain ⟨hs1, hs2⟩ := HSET.out w2 HF2.out (.slice va0 l.length vc0)
    have HS1 := Lib.hid hs1
    have HS2 := Lib.hid hs2
    clear hs1 hs2
    go_wp2_with fail
    have r0 := blk_cell HS1.out 0 rfl
    have r1 := blk_cell HS1.out 1 rfl
    refine bodyPost_ret (v := .tuple #[.agg #[.slice va0 l.length vc0, .int .i64 n], .int .i64 1]) (by simp [results, Tryd.results10, go_sem, r0, r1]) rfl ?_
    exact ⟨.inl ⟨by rw [HP.out]; decide, by rw [HP.out]⟩, HS2.out⟩
  | true =>
  rw [if_neg (by decide)] at hpz
  by_cases hneg : now < 0
  · rw [if_pos hneg] at hpz
    have HP := Lib.hid hpz
    clear hpz
    obtain ⟨⟨a0, a1⟩, ⟨a2, a3⟩, a4, a5⟩ := HRET.out w2 HF2.out
    obtain ⟨hs1, hs2⟩ := HSET.out w2 HF2.out (.slice va0 l.length vc0)
    have HS1 := Lib.hid hs1
    have HS2 := Lib.hid hs2
    clear hs1 hs2
    go_wp2_with fail
    have r0 := blk_cell HS1.out 0 rfl
    have r1 := blk_cell HS1.out 1 rfl
    refine bodyPost_ret (v := .tuple #[.agg #[.slice va0 l.length vc0, .int .i64 n], .int .i64 6]) (by simp [results, Tryd.results10, go_sem, r0, r1]) rfl ?_
    exact ⟨.inl ⟨by rw [HP.out]; decide, by rw [HP.out]⟩, HS2.out⟩
  rw [if_neg hneg] at hpz
  have HPZ := Lib.hid hpz
  have hra := rng_arr (HF2.out.blk HB2.out (by simp))
  clear hpz
  go_wp2_with (first
    | ((with_reducible refine wpList_loadArr ?_ 43 (.tmp 6) ?_ (w.heap.size + 1 + 1) 0 ?_ CA _ ?_ Tryd.underlying43 ?_ ?_ ?_); rfl; rfl; rfl; exact hra; rfl; exact HAL2.out)
    | fail)
  refine (HLV.out w2 (HF4.out.trans HF2.out (by simp)) (Nat.le_trans HWZ.out HF2.out.size)).mono ?_
  rintro e w3 ⟨rfl, hf3⟩
  have HF3 := Lib.hid (HF2.out.trans hf3 (by simp))
  have HO3 := Lib.hid (OwnF.kept HO2.out hf3 (fun _ _ => by simp))
  clear hra hf3 HO2 HLV
  by_cases hlz : lifeZ a = 0
  case neg =>
    have HP := HPZ
    have HN := Lib.hid hlz
    generalize lifeZ a = LZ at *
    have hl1 : (LZ != 0) = true := by simpa using hlz
    clear hlz
    obtain ⟨⟨a0, a1⟩, ⟨a2, a3⟩, a4, a5⟩ := HRET.out w3 HF3.out
    obtain ⟨hs1, hs2⟩ := HSET.out w3 HF3.out (.slice va0 l.length vc0)
    have HS1 := Lib.hid hs1
    have HS2 := Lib.hid hs2
    clear hs1 hs2
    go_wp2_with fail
    have r0 := blk_cell HS1.out 0 rfl
    have r1 := blk_cell HS1.out 1 rfl
    refine bodyPost_ret (v := .tuple #[.agg #[.slice va0 l.length vc0, .int .i64 n], .int .i64 LZ]) (by simp [results, Tryd.results10, go_sem, r0, r1]) rfl ?_
    exact ⟨.inl ⟨by rw [HP.out]; exact HN.out, by rw [HP.out]⟩, HS2.out⟩
  obtain ⟨hle, hlv1, hlv2, _⟩ := HLF.out hlz
  clear hle
  rw [hlz]
  have HPF := Lib.hid (HPZ.out.trans hlz)
  have HLB := Lib.hid (show -9223372036854775808 ≤ lifeV a ∧ lifeV a ≤ 9223372036854775807 by omega)
  obtain ⟨⟨a0, a1⟩, ⟨a2, a3⟩, a4, a5⟩ := HRET.out w3 HF3.out
  have hra := rng_arr (HF3.out.blk HB2.out (by simp))
  rw [HAC.out] at hra
  have HX := Lib.hid (show REn Bx w3 (⟨L, a, now, lifeV a⟩ : En) (⟨ka, aq, aa, au, am, kc, aqc, aac, auc, amc⟩ : RV) from
    ⟨HO3.out.rd, HO3.out.cold (by decide) Bx (fun x hx => Nat.lt_of_lt_of_le (HBK.out.2.2.1 x hx) HWZ.out), HA.out.frH ((HF4.out.trans HF3.out (by simp)).hot0 Bx), HNOW.out, HLB.out⟩)
  have HWX := Lib.hid (HWI.out w3 (HF4.out.trans HF3.out (by simp)) (Nat.le_trans HWZ.out HF3.out.size) (⟨L, a, now, lifeV a⟩, ⟨ka, aq, aa, au, am, kc, aqc, aac, auc, amc⟩) HX.out)
  unfold RV.V reCs RV.k RV.q RV.a RV.u RV.m at HWX
  simp only at HWX
  obtain ⟨LVV, hLVV⟩ : ∃ z, lifeV a = z := ⟨_, rfl⟩
  have HLVV := Lib.hid hLVV
  rw [hLVV] at HWX HX HLB ⊢
  clear hLVV
  clear hlz hlv1 hlv2 HPZ HLF
  go_wp2_with (first
    | ((with_reducible refine wpList_load_mid ?_ 43 (.tmp 6) ?_ (w.heap.size + 1 + 1) 0 ?_ [.int .i64 a.h.id, .bool a.h.an, .int .i64 a.h.op, .bool a.h.aa, .bool a.h.tc, .bool a.h.rd, .bool a.h.ra, .bool a.h.z, .bool a.h.ad, .bool a.h.cd, .int .i64 a.h.code, .slice aq a.qn aqc, .slice aa a.an aac, .slice au a.un auc, .slice am a.mn amc] _ ?_ Tryd.underlying43 ?_ ?_ ?_); rfl; rfl; rfl; exact hra; rfl; kernel_rfl)
    | fail)
  with_reducible refine HWX.out.mono ?_
  rintro e w4 ⟨v4, rfl, hrc, hf4⟩
  have HRC := Lib.hid hrc
  have HF4' := Lib.hid (HF3.out.trans hf4 (by simp))
  clear hra hrc hf4 a0 a1 a2 a3 a4 a5 HWX HWI
  obtain ⟨G, hG⟩ : ∃ G, withGo n L [((⟨L, a, now, LVV⟩ : En), (⟨ka, aq, aa, au, am, kc, aqc, aac, auc, amc⟩ : RV))] l = G := ⟨_, rfl⟩
  have HG := Lib.hid hG
  have hrc := HRC.out
  rw [hG] at hrc
  have HRG := Lib.hid hrc
  clear hG hrc HRC
  obtain ⟨v4a, v4c, hv4⟩ := HRG.out.rd.slice
  subst hv4
  obtain ⟨gl, hgl⟩ : ∃ k, G.length = k := ⟨_, rfl⟩
  rw [hgl] at HRG ⊢
  obtain ⟨⟨a0, a1⟩, ⟨a2, a3⟩, a4, a5⟩ := HRET.out w4 HF4'.out
  obtain ⟨hs1, hs2⟩ := HSET.out w4 HF4'.out (.slice v4a gl v4c)
  have HS1 := Lib.hid hs1
  have HS2 := Lib.hid hs2
  have HSF := Lib.hid (show Fr [w.heap.size + 1 + 1 + 1] w4 ((w4.setCell ⟨w.heap.size + 1 + 1 + 1, 0, none⟩ (.slice v4a gl v4c)).setCell ⟨w.heap.size + 1 + 1 + 1, 1, none⟩ (.int .i64 n)) from ((Fr.refl [w.heap.size + 1 + 1 + 1] w4).setCell (p := ⟨w.heap.size + 1 + 1 + 1, 0, none⟩) (.inl (by simp)) _).setCell (p := ⟨w.heap.size + 1 + 1 + 1, 1, none⟩) (.inl (by simp)) _)
  clear hs1 hs2 hgl
  go_wp2_with fail
  have r0 := blk_cell HS1.out 0 rfl
  have r1 := blk_cell HS1.out 1 rfl
  refine bodyPost_ret (v := .tuple #[.agg #[.slice v4a gl v4c, .int .i64 n], .int .i64 0]) (by simp [results, Tryd.results10, go_sem, r0, r1]) rfl ?_
  refine ⟨.inr ⟨HPF.out, .slice v4a gl v4c, (⟨ka, aq, aa, au, am, kc, aqc, aac, auc, amc⟩ : RV), rfl, ?_⟩, HS2.out⟩
  rw [← HK0.out, HLVV.out, HG.out]
  exact (HRG.out.frH (HSF.out.hot Bx (fun x hx _ => .inr (by
    simp only [List.mem_singleton] at hx
    rw [hx]
    exact HBK.out.2.2.2)))).turn HBK.out.1.symm (fun x hx => .inl (HBK.out.2.1 x hx))

end Go.Proofs.YtkdmkpdooiacaaaDoor
