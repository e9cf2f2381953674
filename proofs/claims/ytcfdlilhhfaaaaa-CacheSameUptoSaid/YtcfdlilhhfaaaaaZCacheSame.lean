/- CacheSame: the walk. -/
import Derived.Test.YtcfdlilhhfaaaaaZSame0
namespace Go.Proofs.Ytcfdlilhhfaaaaa
open Go.RowKit

theorem three_all (w : World) (x y z : Obj) : (((w.alloc x).alloc y).alloc z).heap[w.heap.size]? = some x ∧ (((w.alloc x).alloc y).alloc z).heap[w.heap.size + 1]? = some y ∧ (((w.alloc x).alloc y).alloc z).heap[w.heap.size + 1 + 1]? = some z ∧ Fr [] w (((w.alloc x).alloc y).alloc z) := by
  obtain ⟨h1, h2, h3, _⟩ := three_new w x y z
  exact ⟨h1, h2, h3, (((Fr.refl [] w).alloc x).alloc y).alloc z⟩

theorem range_pre {w : World} {b : Nat} (ds es : List Value) (h : w.rangeAt b 0 (ds ++ es)) : w.rangeAt b 0 ds :=
  range_sub h 0 ds (fun j u hd => by
    rw [Nat.zero_add, List.getElem?_append_left (List.getElem?_eq_some_iff.1 hd).1]
    exact hd)

set_option maxHeartbeats 16000000 in
set_option maxRecDepth 100000 in
theorem cacheSame_any (w : World) (q a o : Ms) (vq va vu vm xq xa xu xm yq ya yu ym : Value) (now later : Int) (hq : MsOk ⟨w.heap.size, []⟩ w q vq va vu vm) (ha : MsOk ⟨w.heap.size, []⟩ w a xq xa xu xm) (ho : MsOk ⟨w.heap.size, []⟩ w o yq ya yu ym)
    (sq : MsSm q) (sa : MsSm a) (so : MsSm o) (hnow : -9223372036854775808 ≤ now ∧ now ≤ 9223372036854775807) (hlat : -9223372036854775808 ≤ later ∧ later ≤ 9223372036854775807) :
    Calls Try.prog 3 #[msgV q.h vq va vu vm, msgV a.h xq xa xu xm, msgV o.h yq ya yu ym, .int .i64 now, .int .i64 later] w fun e w' => e = .returned (.bool true) ∧ Fr [] w w' := by
  have HQ := Lib.hid hq
  have HA := Lib.hid ha
  have HO := Lib.hid ho
  have SQ := Lib.hid sq
  have SA := Lib.hid sa
  have SO := Lib.hid so
  obtain ⟨_, g0⟩ := hq.hq
  obtain ⟨_, g1⟩ := hq.ha
  obtain ⟨_, g2⟩ := hq.hu
  obtain ⟨_, g3⟩ := hq.hm
  obtain ⟨_, g4⟩ := ha.hq
  obtain ⟨_, g5⟩ := ha.ha
  obtain ⟨_, g6⟩ := ha.hu
  obtain ⟨_, g7⟩ := ha.hm
  obtain ⟨_, g8⟩ := ho.hq
  obtain ⟨_, g9⟩ := ho.ha
  obtain ⟨_, gA⟩ := ho.hu
  obtain ⟨_, gB⟩ := ho.hm
  obtain ⟨qb0, qc0, rfl⟩ := g0.rd.slice
  obtain ⟨qb1, qc1, rfl⟩ := g1.rd.slice
  obtain ⟨qb2, qc2, rfl⟩ := g2.rd.slice
  obtain ⟨qb3, qc3, rfl⟩ := g3.rd.slice
  obtain ⟨ab0, ac0, rfl⟩ := g4.rd.slice
  obtain ⟨ab1, ac1, rfl⟩ := g5.rd.slice
  obtain ⟨ab2, ac2, rfl⟩ := g6.rd.slice
  obtain ⟨ab3, ac3, rfl⟩ := g7.rd.slice
  obtain ⟨ob0, oc0, rfl⟩ := g8.rd.slice
  obtain ⟨ob1, oc1, rfl⟩ := g9.rd.slice
  obtain ⟨ob2, oc2, rfl⟩ := gA.rd.slice
  obtain ⟨ob3, oc3, rfl⟩ := gB.rd.slice
  clear hq ha ho sq sa so g0 g1 g2 g3 g4 g5 g6 g7 g8 g9 gA gB
  have HTH := Lib.hid (show ∀ age, (tolM o (tolM q a 0) age).h = { a.h with id := o.h.id, rd := o.h.rd } from fun age => rfl)
  unfold msgV at *
  obtain ⟨qh, eqh⟩ : ∃ x, q.h = x := ⟨_, rfl⟩
  obtain ⟨ah, eah⟩ : ∃ x, a.h = x := ⟨_, rfl⟩
  obtain ⟨oh, eoh⟩ : ∃ x, o.h = x := ⟨_, rfl⟩
  have HEQ := Lib.hid eqh
  have HEA := Lib.hid eah
  have HEO := Lib.hid eoh
  rw [eqh, eah, eoh]
  rw [eah, eoh] at HTH
  clear eqh eah eoh
  obtain ⟨h0, h1, h2, h3, h4, h5, h6, h7, h8, h9, h10⟩ := qh
  obtain ⟨i0, i1, i2, i3, i4, i5, i6, i7, i8, i9, i10⟩ := ah
  obtain ⟨j0, j1, j2, j3, j4, j5, j6, j7, j8, j9, j10⟩ := oh
  simp only at *
  go_enter Try.func3, Try.ntmps3
  go_wp2_with fail
  refine calls_gen (fun W => W.heap[w.heap.size]? = some (.cells (msgCs ⟨h0, h1, h2, h3, h4, h5, h6, h7, h8, h9, h10⟩ (.slice qb0 q.qn qc0) (.slice qb1 q.an qc1) (.slice qb2 q.un qc2) (.slice qb3 q.mn qc3)) 27) ∧ W.heap[w.heap.size + 1]? = some (.cells (msgCs ⟨i0, i1, i2, i3, i4, i5, i6, i7, i8, i9, i10⟩ (.slice ab0 a.qn ac0) (.slice ab1 a.an ac1) (.slice ab2 a.un ac2) (.slice ab3 a.mn ac3)) 27) ∧ W.heap[w.heap.size + 1 + 1]? = some (.cells (msgCs ⟨j0, j1, j2, j3, j4, j5, j6, j7, j8, j9, j10⟩ (.slice ob0 o.qn oc0) (.slice ob1 o.an oc1) (.slice ob2 o.un oc2) (.slice ob3 o.mn oc3)) 27) ∧ Fr [] w W) (three_all w _ _ _) ?_
  rintro W ⟨b0, b1, b2, hfW⟩
  refine (cached_any W).mono ?_
  rintro e w1 ⟨rfl, hf1⟩
  have hf1 := hf1.all
  have c0 := hf1.blk b0 (by simp)
  have c1 := hf1.blk b1 (by simp)
  have c2 := hf1.blk b2 (by simp)
  have HW1 := Lib.hid (hfW.trans hf1 (by simp))
  clear b0 b1 b2 hfW hf1
  go_wp2_with fail
  refine (new_ok w1 1 (by decide)).mono ?_
  rintro e w2 ⟨rfl, hC, hf2⟩
  have HC := Lib.hid hC
  have HB0 := Lib.hid (hf2.blk c0 (by simp))
  have HB1 := Lib.hid (hf2.blk c1 (by simp))
  have HB2 := Lib.hid (hf2.blk c2 (by simp))
  have HS1 := Lib.hid (show w.heap.size + 1 + 1 < w1.heap.size from lt_of_blk c2)
  have HF2 := Lib.hid (HW1.out.trans hf2 (by simp))
  have HF12 := Lib.hid hf2
  have HC0 := Lib.hid c0
  have HC1 := Lib.hid c1
  have HC2 := Lib.hid c2
  clear hC hf2 c0 c1 c2
  have HMQ := Lib.hid (fun (wx : World) (h : Fr [] w wx) => (HQ.out.frH (h.hot0 _)).up (B' := ⟨w1.heap.size, []⟩) HW1.out.size rfl)
  have HMA := Lib.hid (fun (wx : World) (h : Fr [] w wx) => (HA.out.frH (h.hot0 _)).up (B' := ⟨w1.heap.size, []⟩) HW1.out.size rfl)
  have HMO := Lib.hid (fun (wx : World) (h : Fr [] w wx) => (HO.out.frH (h.hot0 _)).up (B' := ⟨w1.heap.size, []⟩) HW1.out.size rfl)
  have HRQ := Lib.hid (fun (wx : World) (h : Fr [] w2 wx) => show wx.rangeAt w.heap.size 0 [.int .i64 h0, .bool h1, .int .i64 h2, .bool h3, .bool h4, .bool h5, .bool h6, .bool h7, .bool h8, .bool h9, .int .i64 h10, .slice qb0 q.qn qc0, .slice qb1 q.an qc1, .slice qb2 q.un qc2, .slice qb3 q.mn qc3] from range_blk (h.blk HB0.out (by simp)))
  have HRO := Lib.hid (fun (wx : World) (hb : wx.heap[w.heap.size + 1 + 1]? = some (.cells (msgCs ⟨j0, j1, j2, j3, j4, j5, j6, j7, j8, j9, j10⟩ (.slice ob0 o.qn oc0) (.slice ob1 o.an oc1) (.slice ob2 o.un oc2) (.slice ob3 o.mn oc3)) 27 (0, 0))) => show wx.rangeAt (w.heap.size + 1 + 1) 0 [.int .i64 j0, .bool j1, .int .i64 j2, .bool j3, .bool j4, .bool j5, .bool j6, .bool j7, .bool j8, .bool j9, .int .i64 j10, .slice ob0 o.qn oc0, .slice ob1 o.an oc1, .slice ob2 o.un oc2, .slice ob3 o.mn oc3] from range_blk hb)
  have HKQ := Lib.hid (fun (wx : World) (h : Fr [] w wx) => key_any wx ⟨w1.heap.size, []⟩ q _ _ _ _ (optDo q) (optZ q) (HMQ.out wx h) (findAll_any wx _ q _ _ _ _ (HMQ.out wx h) SQ.out.find))
  have HKO := Lib.hid (fun (wx : World) (h : Fr [] w wx) => key_any wx ⟨w1.heap.size, []⟩ o _ _ _ _ (optDo o) (optZ o) (HMO.out wx h) (findAll_any wx _ o _ _ _ _ (HMO.out wx h) SO.out.find))
  unfold msgV at HKQ HKO
  rw [HEQ.out] at HKQ
  rw [HEO.out] at HKO
  simp only at HKQ HKO
  go_wp2_with (first
    | (refine wpList_load_mid rfl 27 (.tmp 5) rfl w.heap.size 0 rfl [.int .i64 h0, .bool h1, .int .i64 h2, .bool h3, .bool h4, .bool h5, .bool h6, .bool h7, .bool h8, .bool h9, .int .i64 h10, .slice qb0 q.qn qc0, .slice qb1 q.an qc1, .slice qb2 q.un qc2, .slice qb3 q.mn qc3] _ (HRQ.out _ (Fr.refl _ _)) Try.underlying27 rfl (by kernel_rfl) ?_)
    | fail)
  refine (HKQ.out w2 HF2.out).mono ?_
  rintro e w3 h3
  obtain ⟨ka, kc, K, rfl, hok, hkk, hf3⟩ := KeyGood.gen h3
  have HK1 := Lib.hid hkk
  have HOK := Lib.hid hok
  have HF3 := Lib.hid (HF2.out.trans hf3 (by simp))
  have HG3 := Lib.hid hf3
  have hB3 := hf3.blk HB2.out (by simp)
  have hr3 := HRO.out w3 hB3
  clear h3 hok hkk hf3 hB3
  go_wp2_with (first
    | (refine wpList_load_mid rfl 27 (.tmp 7) rfl (w.heap.size + 1 + 1) 0 rfl [.int .i64 j0, .bool j1, .int .i64 j2, .bool j3, .bool j4, .bool j5, .bool j6, .bool j7, .bool j8, .bool j9, .int .i64 j10, .slice ob0 o.qn oc0, .slice ob1 o.an oc1, .slice ob2 o.un oc2, .slice ob3 o.mn oc3] _ hr3 Try.underlying27 rfl (by kernel_rfl) ?_)
    | fail)
  refine (HKO.out w3 HF3.out).mono ?_
  rintro e w4 h4
  obtain ⟨la, lc, L, rfl, hol, hll, hf4⟩ := KeyGood.gen h4
  have HL1 := Lib.hid hll
  have HF4 := Lib.hid (HF3.out.trans hf4 (by simp))
  have HG4 := Lib.hid (HG3.out.trans hf4 (by simp))
  have hrk : RdF w4 (.slice ka K.length kc) K.length (fun j => .int .u8 (lI K j)) := OwnB.rdI (OwnF.kept HOK.out hf4 (by simp))
  have hrl : RdF w4 (.slice la L.length lc) L.length (fun j => .int .u8 (lI L j)) := hol.rdI
  have hbk := hrk.le_cap
  have hbl := hrl.le_cap
  unfold maxLen at hbk hbl
  have HBY := Lib.hid (bytes_any w4 ka la K.length L.length kc lc (lI K) (lI L) hrk hrl (by omega) (by omega))
  rw [bytes_eq] at HBY
  clear h4 hol hll hf4 hrk hrl hbk hbl hr3 HOK HKQ HKO HRQ
  go_wp2_with fail
  refine HBY.out.mono ?_
  rintro e w5 ⟨rfl, q5, rfl⟩
  have HF5 := Lib.hid (HF4.out.drewN q5)
  have HG5 := Lib.hid (HG4.out.drewN q5)
  clear HBY HF4 HG4 HF3 HG3
  generalize w4.drewN q5 = w5 at *
  by_cases kq : keyFault q (optZ q) = 0
  case neg =>
    have HKN := Lib.hid kq
    rw [erVn_pos kq]
    clear kq
    go_wp2_with fail
    go_ret
    exact ⟨rfl, HF5.out⟩
  rw [kq, erVn_zero]
  by_cases ko : keyFault o (optZ o) = 0
  case neg =>
    rw [erVn_pos ko]
    have HKN := Lib.hid ko
    have HKN2 := Lib.hid kq
    clear kq ko
    go_wp2_with fail
    go_ret
    exact ⟨rfl, HF5.out⟩
  rw [ko, erVn_zero]
  have KQ := Lib.hid kq
  have KO := Lib.hid ko
  have HKK := Lib.hid (HK1.out kq)
  have HLL := Lib.hid (HL1.out ko)
  clear HK1 HL1 kq ko
  by_cases hKL : K = L
  case neg =>
    have hd : decide (K = L) = false := decide_eq_false hKL
    rw [hd]
    clear hd hKL
    go_wp2_with fail
    go_ret
    exact ⟨rfl, HF5.out⟩
  have hd : decide (K = L) = true := decide_eq_true hKL
  rw [hd]
  have HKL := Lib.hid hKL
  clear hd hKL
  generalize K.length = kn at *
  generalize L.length = ln at *
  have b5 := HG5.out.blk HB0.out (by simp)
  have a5 := HG5.out.blk HB1.out (by simp)
  unfold msgCs at b5 a5
  obtain ⟨x0, x1, x2, x3, x4, x5, x6, x7, x8, x9, x10, x11, x12, x13, x14⟩ := msg_cells (h := ⟨h0, h1, h2, h3, h4, h5, h6, h7, h8, h9, h10⟩) b5
  obtain ⟨y0, y1, y2, y3, y4, y5, y6, y7, y8, y9, y10, y11, y12, y13, y14⟩ := msg_cells (h := ⟨i0, i1, i2, i3, i4, i5, i6, i7, i8, i9, i10⟩) a5
  clear b5 a5
  have HPUT := Lib.hid (put_any w5 ⟨w1.heap.size, []⟩ w1.heap.size 1 (.slice none 0 0) [] q a _ _ _ _ _ _ _ _ now (optDo q) (optZ q) (HC.out.fr0 HG5.out) (HMQ.out w5 HF5.out) (HMA.out w5 HF5.out) (findAll_any w5 _ q _ _ _ _ (HMQ.out w5 HF5.out) SQ.out.find) (by have := SA.out.an; have := SA.out.un; have := SA.out.mn; omega) ⟨by show w1.heap.size ≤ _; exact Nat.le_trans HF12.out.size HG5.out.size, by simp⟩ hnow)
  unfold msgV at HPUT
  rw [HEQ.out, HEA.out] at HPUT
  simp only at HPUT
  go_wp2_with fail
  refine HPUT.out.mono ?_
  rintro e w6 h6
  have HV5 := Lib.hid (HF12.out.trans HG5.out (by simp))
  clear HPUT x0 x1 x2 x3 x4 x5 x6 x7 x8 x9 x10 x11 x12 x13 x14 y0 y1 y2 y3 y4 y5 y6 y7 y8 y9 y10 y11 y12 y13 y14
  rcases h6 with ⟨h6, rfl, hf6⟩ | ⟨h6, rfl, v6, hca, hfh, hfo⟩
  · have HF6 := Lib.hid (HF5.out.trans hf6 (by simp))
    clear h6 hf6
    go_wp2_with fail
    go_ret
    exact ⟨rfl, HF6.out⟩
  obtain ⟨hlz, hn0⟩ := putZ_zero h6
  have HLZ := Lib.hid hlz
  have HV6 := Lib.hid (HV5.out.joinH hfh (Nat.le_refl _) rfl)
  have HW6 := Lib.hid (HW1.out.trans HV6.out (by simp))
  obtain ⟨h1e, h2e⟩ := lone (putE q a (optDo q) now) K (by rw [HKK.out]; rfl)
  rw [h1e] at hca
  have HCA := Lib.hid hca
  have hkey : keyL (o.Q 0) o.h.rd (optDo o) = K := by rw [HKL.out, HLL.out]
  have HIX := Lib.hid (show fIx (keyL (o.Q 0) o.h.rd (optDo o)) [putE q a (optDo q) now] = 0 by rw [hkey]; exact h2e)
  have HEA2 := Lib.hid (show (putE q a (optDo q) now).at_ = now ∧ (putE q a (optDo q) now).life = lifeV a ∧ (putE q a (optDo q) now).m = tolM q a 0 from ⟨rfl, rfl, rfl⟩)
  have HFRD := Lib.hid (show ∀ t, fresh t (putE q a (optDo q) now) = !(decide (t < now) || decide (lifeV a ≤ t - now)) from fun t => rfl)
  clear h6 hlz hca hfh hfo h1e h2e hkey HC HF12 HG5 HV5 HF5
  generalize putE q a (optDo q) now = E at *
  have HGET := Lib.hid (get_any w6 ⟨w1.heap.size, []⟩ w1.heap.size 1 v6 [E] o _ _ _ _ later (optDo o) (optZ o) HCA.out (HMO.out w6 HW6.out) (findAll_any w6 _ o _ _ _ _ (HMO.out w6 HW6.out) SO.out.find) ⟨by show w1.heap.size ≤ _; exact HV6.out.size, by simp⟩ hlat (by simp [HEA2.out.1]; exact hn0))
  have HTOLD := Lib.hid (fun (w' : World) (e : Ending) (hf : fresh later E = true) (h : GetGood w6 w' ⟨w1.heap.size, []⟩ w1.heap.size 1 v6 [E] o (optDo o) (optZ o) later e) => GetGood.told h KO.out E (by rw [HIX.out]; exact Nat.zero_lt_one) (by simp [HIX.out]) hf)
  have HNONE := Lib.hid (fun (w' : World) (e : Ending) (hf : fresh later E = false) (h : GetGood w6 w' ⟨w1.heap.size, []⟩ w1.heap.size 1 v6 [E] o (optDo o) (optZ o) later e) => GetGood.none h KO.out (fun hi => by simp [HIX.out]; exact hf))
  rw [HEA2.out.1, HEA2.out.2.2] at HTOLD
  unfold msgV at HGET
  rw [HEO.out] at HGET
  simp only at HGET
  have hr6 := HRO.out w6 (HV6.out.blk HC2.out (by simp))
  have HQN := Lib.hid (show o.qn = 1 from by
    have h := KO.out
    unfold keyFault at h
    by_cases hq : o.qn = 1
    · exact hq
    · rw [if_pos hq] at h
      cases h)
  clear HCA HIX HEA2 HKK HLL HKL KQ KO
  go_upto_region 12 with fail
  go_cut [19, 20, 13] (fun pm ph pe wx => pe = .nilIface ∧ ph = .bool (fresh later E) ∧ ∃ (b : Nat) (cs : Array Value), pm = .pointer (some ⟨b, 0, none⟩) ∧ wx.heap[b]? = some (.cells cs 27 (0, 0)) ∧
    (fresh later E = true → ∃ ma mb mc md na nb nc nd, cs = msgCs (tolM o (tolM q a 0) (later - now)).h (.slice ma o.qn na) (.slice mb a.an nb) (.slice mc a.un nc) (.slice md a.mn nd) ∧ MsOk ⟨w1.heap.size, []⟩ wx (tolM o (tolM q a 0) (later - now)) (.slice ma o.qn na) (.slice mb a.an nb) (.slice mc a.un nc) (.slice md a.mn nd)) ∧ Fr [] w1 wx)
  case first =>
    go_wp2_with (first
      | (refine wpList_load_mid rfl 27 (.tmp 7) rfl (w.heap.size + 1 + 1) 0 rfl [.int .i64 j0, .bool j1, .int .i64 j2, .bool j3, .bool j4, .bool j5, .bool j6, .bool j7, .bool j8, .bool j9, .int .i64 j10, .slice ob0 o.qn oc0, .slice ob1 o.an oc1, .slice ob2 o.un oc2, .slice ob3 o.mn oc3] _ hr6 Try.underlying27 rfl (by kernel_rfl) ?_)
      | fail)
    refine HGET.out.mono ?_
    rintro e w7 h7
    clear hr6 HGET
    cases hf : fresh later E with
    | true =>
      obtain ⟨vq, va, vu, vm, rfl, hms, v7, _, hfh⟩ := HTOLD.out _ _ hf h7
      clear h7 HTOLD HNONE
      obtain ⟨_, j0'⟩ := hms.hq
      obtain ⟨_, j1'⟩ := hms.ha
      obtain ⟨_, j2'⟩ := hms.hu
      obtain ⟨_, j3'⟩ := hms.hm
      obtain ⟨s0, t0, rfl⟩ := j0'.rd.slice
      obtain ⟨s1, t1, rfl⟩ := j1'.rd.slice
      obtain ⟨s2, t2, rfl⟩ := j2'.rd.slice
      obtain ⟨s3, t3, rfl⟩ := j3'.rd.slice
      have HMS := Lib.hid hms
      have HF7 := Lib.hid (HV6.out.joinH hfh (Nat.le_refl _) rfl)
      clear hms hfh j0' j1' j2' j3'
      unfold msgV
      rw [HTH.out]
      simp only
      go_wp2_with fail
      go_meet
      exact ⟨rfl, by rw [hf], w7.heap.size, _, rfl, heap_alloc_new w7 _, fun _ => ⟨s0, s1, s2, s3, t0, t1, t2, t3, by rw [HTH.out]; rfl, HMS.out.frH (((Fr.refl [] w7).alloc _).hot0 _)⟩, HF7.out.alloc _⟩
    | false =>
      obtain ⟨rfl, hf7⟩ := HNONE.out _ _ hf h7
      clear h7 HTOLD HNONE
      have HF7 := Lib.hid (HV6.out.trans hf7 (by simp))
      clear hf7
      unfold zMsg
      go_wp2_with fail
      go_meet
      exact ⟨rfl, by rw [hf], w7.heap.size, _, rfl, heap_alloc_new w7 _, fun h => (by rw [hf] at h; exact absurd h (by decide)), HF7.out.alloc _⟩
  case rest =>
    obtain ⟨rfl, rfl, b, cs, rfl, hb, hmm, hfx⟩ := hcut
    have HFX := Lib.hid hfx
    have HBM := Lib.hid hb
    have HMM := Lib.hid hmm
    have HA1 := Lib.hid (hfx.blk HC1.out (by simp))
    have hra := range_blk HA1.out
    have HA2 := Lib.hid (hfx.blk HC2.out (by simp))
    have HWX := Lib.hid (HW1.out.trans hfx (by simp))
    have HFR1 := Lib.hid (HFRD.out later)
    have HN0 := Lib.hid hn0
    clear hb hmm hfx HGET HTOLD HNONE hr6 HV6 HW6 HFRD HC0 HC1 HC2 HMQ SQ HQ HA HO HRO
    go_upto_region 16 with fail
    have HAGE := Lib.hid (fun (h : now ≤ later) => show wrap64 (later - now) = later - now by unfold wrap64; have := HN0.out; omega)
    generalize wrap64 (later - now) = age at *
    generalize fresh later E = F at *
    have HTT := Lib.hid (tt_ok a (by
      have h := HLZ.out
      cases hb : tbad a.T2 (a.N1 + a.mn)
      · rfl
      · unfold lifeZ at h
        rw [if_pos hb] at h
        cases h))
    have HLNG := Lib.hid (lng_life a HLZ.out)
    have HTN := Lib.hid (show (tolM o (tolM q a 0) (later - now)).N = a.N from rfl)
    have HN := Lib.hid (show a.N = a.an + a.un + a.mn from rfl)
    have HSUM := Lib.hid (show (a.an + a.un + a.mn) * 72 ≤ 140737488355328 by have := SA.out.an; have := SA.out.un; have := SA.out.mn; omega)
    have hall := all_any wc ⟨w1.heap.size, []⟩ a _ _ _ _ (HMA.out wc HWX.out) (by simp) HSUM.out
    unfold msgV at hall
    rw [HEA.out] at hall
    simp only at hall
    have HALL := Lib.hid hall
    have HLV := Lib.hid (show ∀ i, a.lv i ↔ (i < a.an + a.un ∨ (a.R i).ty ≠ 41) from fun i => Iff.rfl)
    have HST := Lib.hid (show ∀ i, lngF a (i + 1) = if a.lv i then (if lngF a i < 0 ∨ (a.R i).tt < lngF a i then (a.R i).tt else lngF a i) else lngF a i from fun i => rfl)
    have H0 := Lib.hid (show lngF a 0 = -1 from rfl)
    have HLE := Lib.hid (fun i (hi : i < a.N) (hl : a.lv i) => lng_le a hi hl (fun j hj => (HTT.out j hj).1))
    clear hall HMA HLZ SA
    go_wp2_with (first
      | (refine wpList_load_mid rfl 27 (.tmp 6) rfl (w.heap.size + 1) 0 rfl [.int .i64 i0, .bool i1, .int .i64 i2, .bool i3, .bool i4, .bool i5, .bool i6, .bool i7, .bool i8, .bool i9, .int .i64 i10, .slice ab0 a.qn ac0, .slice ab1 a.an ac1, .slice ab2 a.un ac2, .slice ab3 a.mn ac3] _ hra Try.underlying27 rfl (by kernel_rfl) ?_)
      | fail)
    refine HALL.out.mono ?_
    rintro e w8 ⟨v8, G, rfl, _, hS8, hf8⟩
    clear hra HALL
    have HF8 := Lib.hid (HFX.out.trans hf8 (by simp))
    have HW8 := Lib.hid (HW1.out.trans HF8.out (by simp))
    have HB8 := Lib.hid (hf8.blk HBM.out (by simp))
    have HA8 := Lib.hid (hf8.blk HA1.out (by simp))
    have HO8 := Lib.hid (hf8.blk HA2.out (by simp))
    have HM8 := Lib.hid (fun (h : F = true) => (by
      obtain ⟨ma, mb, mc, md, na, nb, nc, nd, h1, h2⟩ := HMM.out h
      exact ⟨ma, mb, mc, md, na, nb, nc, nd, h1, h2.frH (hf8.hot0 _)⟩ : ∃ ma mb mc md na nb nc nd, cs = msgCs (tolM o (tolM q a 0) (later - now)).h (.slice ma o.qn na) (.slice mb a.an nb) (.slice mc a.un nc) (.slice md a.mn nd) ∧ MsOk ⟨w1.heap.size, []⟩ w8 (tolM o (tolM q a 0) (later - now)) (.slice ma o.qn na) (.slice mb a.an nb) (.slice mc a.un nc) (.slice md a.mn nd)))
    have x14 : w8.cell? ⟨w.heap.size + 1, 14, none⟩ = some (.slice ab3 a.mn ac3) := blk_cell HA8.out 14 rfl
    obtain ⟨a2, c2, rfl⟩ := hS8.rd.slice
    have HS2 := Lib.hid hS8
    have hnb := hS8.nb
    clear hf8 hS8 HMM HFX HBM HA1 HA2 HWX
    generalize a.N = NN at *
    go_wp2_with fail
    go_loopw [23, 24] (fun vl vi wr => ∃ i : Nat, i ≤ NN ∧ vi = .int .i64 i ∧ vl = .int .i64 (lngF a i) ∧ wr = w8) (fun _ vi _ => NN - (intOf vi).toNat)
    case atStart => exact ⟨0, by omega, rfl, by rw [H0.out], rfl⟩
    case round =>
      obtain ⟨i, hi, rfl, rfl, rfl⟩ := hrel
      by_cases hlt : i < NN
      · as_aux_lemma =>
        obtain ⟨b1, o1, c1, he1, _, _, _, hc1⟩ := HS2.out.rd.shape (by omega) (by decide)
        simp only [Value.slice.injEq, true_and] at he1
        obtain ⟨rfl, rfl⟩ := he1
        obtain ⟨na', nc', da', dc', hF, _⟩ := HS2.out.at_ i hlt
        have k1 := hc1 i 1 hlt (by decide)
        have k3 := hc1 i 3 hlt (by decide)
        rw [hF 1 (by decide)] at k1
        rw [hF 3 (by decide)] at k3
        simp only [Rs.F] at k1 k3
        clear hc1 hF
        have k0 : (0 : Int) ≤ (i : Int) := by omega
        have k9 : (i : Int) < (NN : Int) := by omega
        have HSTI := Lib.hid (HST.out i)
        have HLVI := Lib.hid (HLV.out i)
        have hNN : (NN : Int) - (a.mn : Int) = ((a.an + a.un : Nat) : Int) := by have := HN.out; omega
        have hs2 := HSUM.out
        generalize (a.R i).tt = tt at *
        generalize (a.R i).ty = ty at *
        generalize lngF a i = lg at *
        have hnn : 0 ≤ NN := Nat.zero_le _
        have w1' : IntKind.i64.wrap ((a.an + a.un : Nat) : Int) = ((a.an + a.un : Nat) : Int) := IntWalk.i64_in _ (by omega)
        clear hs2
        by_cases hv : a.lv i
        · have HST2 := Lib.hid (HSTI.out.trans (if_pos hv))
          have hv2 := HLVI.out.1 hv
          clear hv HLVI HSTI
          have hsp : (((i : Int) < ((a.an + a.un : Nat) : Int))) ∨ (¬ ((i : Int) < ((a.an + a.un : Nat) : Int)) ∧ (ty != 41) = true) := by
            by_cases h : (i : Int) < ((a.an + a.un : Nat) : Int)
            · exact .inl h
            · rcases hv2 with h2 | h2
              · omega
              · exact .inr ⟨h, by simpa using h2⟩
          clear hv2
          rcases hsp with hA | ⟨hA, hB⟩
          all_goals
            by_cases hl1 : lg < 0
            · have HST3 := Lib.hid (HST2.out.trans (if_pos (.inl hl1)))
              go_wp2_with fail
              go_roundw
              case rel => exact ⟨i + 1, by omega, by go_num, by rw [HST3.out], by first | trivial | rfl⟩
              case measure => (simp [intOf] <;> omega)
            · by_cases hl2 : tt < lg
              · have HST3 := Lib.hid (HST2.out.trans (if_pos (.inr hl2)))
                go_wp2_with fail
                go_roundw
                case rel => exact ⟨i + 1, by omega, by go_num, by rw [HST3.out], by first | trivial | rfl⟩
                case measure => (simp [intOf] <;> omega)
              · have HST3 := Lib.hid (HST2.out.trans (if_neg (fun h => by rcases h with h | h; exact hl1 h; exact hl2 h)))
                go_wp2_with fail
                go_roundw
                case rel => exact ⟨i + 1, by omega, by go_num, by rw [HST3.out], by first | trivial | rfl⟩
                case measure => (simp [intOf] <;> omega)
        · have HST2 := Lib.hid (HSTI.out.trans (if_neg hv))
          have hv2 : ¬ (i < a.an + a.un ∨ ty ≠ 41) := fun h => hv (HLVI.out.2 h)
          clear hv HLVI HSTI
          have h41 : ty = 41 := by omega
          have h42 : (ty != 41) = false := by simp [h41]
          have h43 : ¬ ((i : Int) < ((a.an + a.un : Nat) : Int)) := by omega
          clear hv2 h41
          go_wp2_with fail
          go_roundw
          case rel => exact ⟨i + 1, by omega, by go_num, by rw [HST2.out], by first | trivial | rfl⟩
          case measure => (simp [intOf] <;> omega)
      · obtain rfl : i = NN := by omega
        rw [HLNG.out]
        clear x14 hlt
        cases F with
        | false =>
          have hff : later < now ∨ lifeV a ≤ later - now := by
            have h := HFR1.out
            by_cases h1 : later < now
            · exact .inl h1
            · by_cases h2 : lifeV a ≤ later - now
              · exact .inr h2
              · rw [decide_eq_false h1, decide_eq_false h2] at h
                cases h
          generalize lifeV a = LV at *
          by_cases hnl : now ≤ later
          · have hage := HAGE.out hnl
            have hal : ¬ age < LV := by omega
            clear hage
            go_wp2_with fail
            go_ret
            exact ⟨rfl, HW8.out⟩
          · go_wp2_with fail
            go_ret
            exact ⟨rfl, HW8.out⟩
        | true =>
          have hff : now ≤ later ∧ later - now < lifeV a := by
            have h := HFR1.out
            by_cases h1 : later < now
            · rw [decide_eq_true h1] at h
              cases h
            · by_cases h2 : lifeV a ≤ later - now
              · rw [decide_eq_false h1, decide_eq_true h2] at h
                cases h
              · omega
          obtain ⟨hnl, hal⟩ := hff
          have hage := HAGE.out hnl
          rw [← hage] at hal
          have HAG := Lib.hid hage
          clear hage
          obtain ⟨ma, mb, mc, md, na, nb, nc, nd, rfl, hms⟩ := HM8.out rfl
          have HMS := Lib.hid hms
          clear hms HM8
          have HLV2 := Lib.hid (show lngF a i = lifeV a from HLNG.out)
          generalize lifeV a = LV at *
          have hall2 := all_any wr ⟨w1.heap.size, []⟩ (tolM o (tolM q a 0) (later - now)) _ _ _ _ HMS.out (by simp) HSUM.out
          unfold msgV at hall2
          rw [HTH.out] at hall2
          simp only at hall2
          have HALL2 := Lib.hid hall2
          have HB8' := Lib.hid (show wr.heap[b]? = some (.cells #[.int .i64 j0, .bool i1, .int .i64 i2, .bool i3, .bool i4, .bool j5, .bool i6, .bool i7, .bool i8, .bool i9, .int .i64 i10, .slice ma o.qn na, .slice mb a.an nb, .slice mc a.un nc, .slice md a.mn nd] 27 (0, 0)) by rw [HB8.out, HTH.out]; rfl)
          have hrm := range_blk HB8'.out
          have HQR := Lib.hid HMS.out.hq
          clear hall2 HB8 HMS HLNG HLV HST H0 HTH HN0 HFR1
          go_wp2_with (first
            | (refine wpList_load_mid rfl 27 (.tmp 19) rfl b 0 rfl [.int .i64 j0, .bool i1, .int .i64 i2, .bool i3, .bool i4, .bool j5, .bool i6, .bool i7, .bool i8, .bool i9, .int .i64 i10, .slice ma o.qn na, .slice mb a.an nb, .slice mc a.un nc, .slice md a.mn nd] _ hrm Try.underlying27 rfl (by kernel_rfl) ?_)
            | fail)
          refine HALL2.out.mono ?_
          rintro e w9 ⟨v9, G9, rfl, _, hS9, hf9⟩
          rw [HTN.out] at hS9
          obtain ⟨a9, c9, rfl⟩ := hS9.rd.slice
          have HS9 := Lib.hid hS9
          have HF9 := Lib.hid hf9
          have HW9 := Lib.hid (HW8.out.trans hf9 (by simp))
          have HB9 := Lib.hid (hf9.blk HB8'.out (by simp))
          have HA9 := Lib.hid (hf9.blk HA8.out (by simp))
          have HO9 := Lib.hid (hf9.blk HO8.out (by simp))
          have HS2' := Lib.hid (HS2.out.frH (hf9.hot0 _))
          have hqn := HQN.out
          have y11 : w9.cell? ⟨b, 11, none⟩ = some (.slice ma 1 na) := by rw [← hqn]; exact blk_cell HB9.out 11 rfl
          have y12 : w9.cell? ⟨b, 12, none⟩ = some (.slice mb a.an nb) := blk_cell HB9.out 12 rfl
          have y14 : w9.cell? ⟨b, 14, none⟩ = some (.slice md a.mn nd) := blk_cell HB9.out 14 rfl
          have x12 : w9.cell? ⟨w.heap.size + 1, 12, none⟩ = some (.slice ab1 a.an ac1) := blk_cell HA9.out 12 rfl
          have x14 : w9.cell? ⟨w.heap.size + 1, 14, none⟩ = some (.slice ab3 a.mn ac3) := blk_cell HA9.out 14 rfl
          have hb1 : b < w9.heap.size := lt_of_blk HB9.out
          clear HALL2 hrm hS9 hf9 HS2 HB8' HA8 HO8 HF8 HW8 hqn
          go_wp2_with fail
          go_loopw [26] (fun vi wl => ∃ k : Nat, k ≤ i ∧ vi = .int .i64 k ∧ Fr [] w9 wl) (fun vi _ => i - (intOf vi).toNat)
          case atStart => exact ⟨0, by omega, rfl, Fr.refl _ _⟩
          case round =>
            obtain ⟨k, hk, rfl, hfl⟩ := hrel
            have HFL := Lib.hid hfl
            have x14 : wr.cell? ⟨w.heap.size + 1, 14, none⟩ = some (.slice ab3 a.mn ac3) := blk_cell (hfl.blk HA9.out (by simp)) 14 rfl
            have hb2 : w.heap.size + 1 < wr.heap.size := lt_of_blk (hfl.blk HA9.out (by simp))
            by_cases hlt : k < i
            · as_aux_lemma =>
              have hs2 := HS2'.out.frH (hfl.hot0 _)
              have hs9 := HS9.out.frH (hfl.hot0 _)
              obtain ⟨b1, o1, c1, he1, _, _, _, hc1⟩ := hs2.rd.shape (by omega) (by decide)
              obtain ⟨b2, o2, c3, he2, _, _, _, hc2⟩ := hs9.rd.shape (by omega) (by decide)
              simp only [Value.slice.injEq, true_and] at he1 he2
              obtain ⟨rfl, rfl⟩ := he1
              obtain ⟨rfl, rfl⟩ := he2
              obtain ⟨n1, nc1, d1, dc1, hF1, ok1⟩ := hs2.at_ k hlt
              obtain ⟨n2, nc2, d2, dc2, hF2, ok2⟩ := hs9.at_ k hlt
              obtain ⟨T, hX, hT⟩ : ∃ T, (tolM o (tolM q a 0) (later - now)).R k = { a.R k with tt := T } ∧ (((((k : Int) < ((a.an + a.un : Nat) : Int))) ∨ (¬ ((k : Int) < ((a.an + a.un : Nat) : Int)) ∧ ((a.R k).ty != 41) = true)) ∧ T = (a.R k).tt - age ∧ age < (a.R k).tt ∨ (¬ ((k : Int) < ((a.an + a.un : Nat) : Int)) ∧ ((a.R k).ty != 41) = false) ∧ T = (a.R k).tt) := by
                have htt := HTT.out k hlt
                have hR := tolM_twice q o a (later - now) k htt
                by_cases hv : a.lv k
                · rw [if_pos hv] at hR
                  have hle := HLE.out k hlt hv
                  rw [HLV2.out] at hle
                  have hag := HAG.out
                  have hw : wrap64 ((a.R k).tt - (later - now)) = (a.R k).tt - age := by unfold wrap64; omega
                  rw [hw] at hR
                  refine ⟨_, hR, .inl ⟨?_, rfl, by omega⟩⟩
                  by_cases h : (k : Int) < ((a.an + a.un : Nat) : Int)
                  · exact .inl h
                  · rcases hv with h2 | h2
                    · exact absurd (by omega) h
                    · exact .inr ⟨h, by simpa using h2⟩
                · rw [if_neg hv] at hR
                  refine ⟨_, hR, .inr ⟨⟨fun h => hv (.inl (by omega)), ?_⟩, rfl⟩⟩
                  by_cases h41 : (a.R k).ty = 41
                  · simp [h41]
                  · exact absurd (.inr h41) hv
              rw [hX] at hF2 ok2
              have HTR := Lib.hid (HTT.out k hlt)
              have k0 := hc1 k 0 hlt (by decide)
              have k1 := hc1 k 1 hlt (by decide)
              have k2 := hc1 k 2 hlt (by decide)
              have k3 := hc1 k 3 hlt (by decide)
              have k4 := hc1 k 4 hlt (by decide)
              rw [hF1 0 (by decide)] at k0
              rw [hF1 1 (by decide)] at k1
              rw [hF1 2 (by decide)] at k2
              rw [hF1 3 (by decide)] at k3
              rw [hF1 4 (by decide)] at k4
              have e0 := hc2 k 0 hlt (by decide)
              have e1 := hc2 k 1 hlt (by decide)
              have e2 := hc2 k 2 hlt (by decide)
              have e3 := hc2 k 3 hlt (by decide)
              have e4 := hc2 k 4 hlt (by decide)
              rw [hF2 0 (by decide)] at e0
              rw [hF2 1 (by decide)] at e1
              rw [hF2 2 (by decide)] at e2
              rw [hF2 3 (by decide)] at e3
              rw [hF2 4 (by decide)] at e4
              simp only [Rs.F, Nat.add_zero] at k0 k1 k2 k3 k4 e0 e1 e2 e3 e4
              have hrec := fun (W : World) (h : Fr [] wr W) => record_any W { a.R k with tt := T } { a.R k with tt := T } n2 d2 n1 d1 nc2 dc2 nc1 dc1 (ok2.rdn.fr h (by simp)) (ok2.rdd.fr h (by simp)) (ok1.rdn.fr h (by simp)) (ok1.rdd.fr h (by simp))
              simp only [rsEq_refl] at hrec
              have HREC := Lib.hid hrec
              have HE := Lib.hid (fun (W : World) (h : Fr [] wr W) (x0 x1 x2 x3 x4 : Value) (hv : True) => hv)
              have k8 : (0 : Int) ≤ (k : Int) := by omega
              have k9 : (k : Int) < (i : Int) := by omega
              have hNN : (i : Int) - (a.mn : Int) = ((a.an + a.un : Nat) : Int) := by have := HN.out; omega
              have htr := HTR.out
              clear hc1 hc2 hF1 hF2 ok1 ok2 hX hrec hs2 hs9 HTR
              generalize (a.R k).tt = tt at *
              generalize (a.R k).ty = ty at *
              generalize (a.R k).cl = cl at *
              generalize (a.R k).nl = nl at *
              generalize (a.R k).dl = dl at *
              have hage0 : 0 ≤ age := by have := HAG.out; omega
              obtain ⟨T2, hT2⟩ : ∃ T2, T = T2 := ⟨_, rfl⟩
              rw [hT2] at e3 HREC
              rcases hT with ⟨hA | ⟨hA, hB⟩, hTe, hag⟩ | ⟨⟨hA, hB⟩, hTe⟩
              all_goals
                rw [hTe] at hT2
                go_upto_region 39 with fail
                clear hT2 hTe
                obtain ⟨W, hW⟩ : ∃ W, wr.alloc (.cells #[.slice n1 nl nc1, .int .i64 ty, .int .i64 cl, .int .i64 T2, .slice d1 dl dc1] 44) = W := ⟨_, rfl⟩
                have hfw : Fr [] wr W := by rw [← hW]; exact (Fr.refl [] wr).alloc _
                have hbw : W.heap[wr.heap.size]? = some (.cells #[.slice n1 nl nc1, .int .i64 ty, .int .i64 cl, .int .i64 T2, .slice d1 dl dc1] 44 (0, 0)) := by rw [← hW]; exact heap_alloc_new wr _
                rw [hW]
                have g0 : W.cell? ⟨wr.heap.size, 0, none⟩ = some (.slice n1 nl nc1) := blk_cell hbw 0 rfl
                have g1 : W.cell? ⟨wr.heap.size, 1, none⟩ = some (.int .i64 ty) := blk_cell hbw 1 rfl
                have g2 : W.cell? ⟨wr.heap.size, 2, none⟩ = some (.int .i64 cl) := blk_cell hbw 2 rfl
                have g3 : W.cell? ⟨wr.heap.size, 3, none⟩ = some (.int .i64 T2) := blk_cell hbw 3 rfl
                have g4 : W.cell? ⟨wr.heap.size, 4, none⟩ = some (.slice d1 dl dc1) := blk_cell hbw 4 rfl
                have f0 := hfw.cell e0 (by simp)
                have f1 := hfw.cell e1 (by simp)
                have f2 := hfw.cell e2 (by simp)
                have f3 := hfw.cell e3 (by simp)
                have f4 := hfw.cell e4 (by simp)
                have HRW := Lib.hid (HREC.out W.drew hfw.drew)
                have HFD := Lib.hid ((HFL.out.trans hfw (by simp)).drew)
                have HSK := Lib.hid (fun (wx : World) (h : Fr [] W.drew wx) => show wx.cell? ⟨b2, o2 + k * 5, none⟩ = some (.slice n2 nl nc2) ∧ wx.cell? ⟨b2, o2 + k * 5 + 1, none⟩ = some (.int .i64 ty) ∧ wx.cell? ⟨b2, o2 + k * 5 + 2, none⟩ = some (.int .i64 cl) ∧ wx.cell? ⟨b2, o2 + k * 5 + 3, none⟩ = some (.int .i64 T2) ∧ wx.cell? ⟨b2, o2 + k * 5 + 4, none⟩ = some (.slice d2 dl dc2) ∧ wx.cell? ⟨wr.heap.size, 0, none⟩ = some (.slice n1 nl nc1) ∧ wx.cell? ⟨wr.heap.size, 1, none⟩ = some (.int .i64 ty) ∧ wx.cell? ⟨wr.heap.size, 2, none⟩ = some (.int .i64 cl) ∧ wx.cell? ⟨wr.heap.size, 3, none⟩ = some (.int .i64 T2) ∧ wx.cell? ⟨wr.heap.size, 4, none⟩ = some (.slice d1 dl dc1) from
                  ⟨h.cell (p := ⟨b2, o2 + k * 5, none⟩) (v := .slice n2 nl nc2) f0 (by simp), h.cell (p := ⟨b2, o2 + k * 5 + 1, none⟩) (v := .int .i64 ty) f1 (by simp), h.cell (p := ⟨b2, o2 + k * 5 + 2, none⟩) (v := .int .i64 cl) f2 (by simp), h.cell (p := ⟨b2, o2 + k * 5 + 3, none⟩) (v := .int .i64 T2) f3 (by simp), h.cell (p := ⟨b2, o2 + k * 5 + 4, none⟩) (v := .slice d2 dl dc2) f4 (by simp), h.cell (p := ⟨wr.heap.size, 0, none⟩) (v := .slice n1 nl nc1) g0 (by simp), h.cell (p := ⟨wr.heap.size, 1, none⟩) (v := .int .i64 ty) g1 (by simp), h.cell (p := ⟨wr.heap.size, 2, none⟩) (v := .int .i64 cl) g2 (by simp), h.cell (p := ⟨wr.heap.size, 3, none⟩) (v := .int .i64 T2) g3 (by simp), h.cell (p := ⟨wr.heap.size, 4, none⟩) (v := .slice d1 dl dc1) g4 (by simp)⟩)
                have HS0 := Lib.hid (HSK.out W.drew (Fr.refl _ _))
                clear hW hbw hfw HREC k0 k1 k2 k3 k4 e0 e1 e2 e3 e4 f0 f1 f2 f3 f4 g0 g1 g2 g3 g4
                go_region_held3 (fun wx => wx.cell? ⟨b2, o2 + k * 5, none⟩ = some (.slice n2 nl nc2) ∧ wx.cell? ⟨b2, o2 + k * 5 + 1, none⟩ = some (.int .i64 ty) ∧ wx.cell? ⟨b2, o2 + k * 5 + 2, none⟩ = some (.int .i64 cl) ∧ wx.cell? ⟨b2, o2 + k * 5 + 3, none⟩ = some (.int .i64 T2) ∧ wx.cell? ⟨b2, o2 + k * 5 + 4, none⟩ = some (.slice d2 dl dc2) ∧ wx.cell? ⟨wr.heap.size, 0, none⟩ = some (.slice n1 nl nc1) ∧ wx.cell? ⟨wr.heap.size, 1, none⟩ = some (.int .i64 ty) ∧ wx.cell? ⟨wr.heap.size, 2, none⟩ = some (.int .i64 cl) ∧ wx.cell? ⟨wr.heap.size, 3, none⟩ = some (.int .i64 T2) ∧ wx.cell? ⟨wr.heap.size, 4, none⟩ = some (.slice d1 dl dc1))
                  (first | exact HS0.out | exact HSY.out | fail) ((go_at_call 13; refine HRW.out.mono ?_; rintro e5 wy ⟨rfl, hfy⟩; have HFY := Lib.hid (HFD.out.trans hfy (by simp)); have HSY := Lib.hid (HSK.out wy hfy); clear hfy))
                go_wp2_with fail
                go_roundw
                case rel => exact ⟨k + 1, by omega, by go_num, HFY.out⟩
                case measure => (simp [intOf] <;> omega)
            · as_aux_lemma =>
              obtain rfl : k = i := by omega
              have hA3 := hfl.blk HA9.out (by simp)
              have hO3 := hfl.blk HO9.out (by simp)
              have hB3 := hfl.blk HB9.out (by simp)
              have hra := range_pre [.int .i64 i0, .bool i1, .int .i64 i2, .bool i3, .bool i4, .bool i5, .bool i6, .bool i7, .bool i8, .bool i9, .int .i64 i10] [.slice ab0 a.qn ac0, .slice ab1 a.an ac1, .slice ab2 a.un ac2, .slice ab3 a.mn ac3] (range_blk hA3)
              have z0 : wr.cell? ⟨w.heap.size + 1 + 1, 0, none⟩ = some (.int .i64 j0) := blk_cell hO3 0 rfl
              have z5 : wr.cell? ⟨w.heap.size + 1 + 1, 5, none⟩ = some (.bool j5) := blk_cell hO3 5 rfl
              have hb3 : w.heap.size + 1 + 1 < wr.heap.size := lt_of_blk hO3
              have HO3 := Lib.hid hO3
              have HB3 := Lib.hid hB3
              clear x14 hA3 hO3 hB3 hlt
              go_upto_region 45 with (first
                | (refine wpList_load_mid rfl 23 (.tmp 210) rfl (w.heap.size + 1) 0 rfl [.int .i64 i0, .bool i1, .int .i64 i2, .bool i3, .bool i4, .bool i5, .bool i6, .bool i7, .bool i8, .bool i9, .int .i64 i10] _ hra Try.underlying23 rfl (by kernel_rfl) ?_)
                | fail)
              obtain ⟨W, hW⟩ : ∃ W, wr.alloc (.cells #[.int .i64 j0, .bool i1, .int .i64 i2, .bool i3, .bool i4, .bool j5, .bool i6, .bool i7, .bool i8, .bool i9, .int .i64 i10] 23) = W := ⟨_, rfl⟩
              have hfw : Fr [] wr W := by rw [← hW]; exact (Fr.refl [] wr).alloc _
              have hbw : W.heap[wr.heap.size]? = some (.cells #[.int .i64 j0, .bool i1, .int .i64 i2, .bool i3, .bool i4, .bool j5, .bool i6, .bool i7, .bool i8, .bool i9, .int .i64 i10] 23 (0, 0)) := by rw [← hW]; exact heap_alloc_new wr _
              rw [hW]
              have HBW := Lib.hid hbw
              have HBB := Lib.hid (hfw.blk HB3.out (by simp))
              have HOO := Lib.hid (hfw.blk HO3.out (by simp))
              have HWW := Lib.hid ((HW9.out.trans HFL.out (by simp)).trans hfw (by simp))
              obtain ⟨FQ, hq1⟩ := HQR.out
              have hq2 : QSec ⟨w1.heap.size, []⟩ W (.slice ma o.qn na) o.qn o.Q FQ := hq1.frH (((HF9.out.trans HFL.out (by simp)).trans hfw (by simp)).hot0 _)
              obtain ⟨FO, hq3⟩ := (HMO.out W HWW.out).hq
              have y11 : W.cell? ⟨b, 11, none⟩ = some (.slice ma o.qn na) := blk_cell HBB.out 11 rfl
              have y12 : W.cell? ⟨w.heap.size + 1 + 1, 11, none⟩ = some (.slice ob0 o.qn oc0) := blk_cell HOO.out 11 rfl
              rw [HQN.out] at hq2 hq3 y11 y12
              clear hW hbw hfw hq1 hra z0 z5 HQR HMO
              obtain ⟨b4, o4, c4, he4, _, _, _, hc4⟩ := hq2.rd.shape (by decide) (by decide)
              obtain ⟨b5, o5, c5, he5, _, _, _, hc5⟩ := hq3.rd.shape (by decide) (by decide)
              simp only [Value.slice.injEq, true_and] at he4 he5
              obtain ⟨rfl, rfl⟩ := he4
              obtain ⟨rfl, rfl⟩ := he5
              obtain ⟨n4, nc4, hF4, rd4, _⟩ := hq2.at_ 0 (by decide)
              obtain ⟨n5, nc5, hF5, rd5, _⟩ := hq3.at_ 0 (by decide)
              have q4 := hc4 0 0 (by decide) (by decide)
              have q5 := hc5 0 0 (by decide) (by decide)
              rw [hF4 0 (by decide)] at q4
              rw [hF5 0 (by decide)] at q5
              simp only [Qs.F, Nat.zero_mul, Nat.add_zero] at q4 q5
              have hb4 := rd4.le_cap
              have hb5 := rd5.le_cap
              unfold maxLen at hb4 hb5
              have htx := texts_any W.drew n4 n5 _ _ _ _ _ _ (rd4.fr ((Fr.refl [] W).drew) (by simp)) (rd5.fr ((Fr.refl [] W).drew) (by simp)) (by omega) (by omega)
              rw [(txEq_iff _ _ _ _).2 ⟨rfl, fun _ _ => rfl⟩] at htx
              have HTX := Lib.hid htx
              have HSK := Lib.hid (fun (wx : World) (h : Fr [] W.drew wx) => show wx.cell? ⟨b, 11, none⟩ = some (.slice (some ⟨b4, o4, none⟩) 1 na) ∧ wx.cell? ⟨b4, o4, none⟩ = some (.slice n4 (o.Q 0).nl nc4) ∧ wx.cell? ⟨w.heap.size + 1 + 1, 11, none⟩ = some (.slice (some ⟨b5, o5, none⟩) 1 oc0) ∧ wx.cell? ⟨b5, o5, none⟩ = some (.slice n5 (o.Q 0).nl nc5) from
                ⟨h.cell (p := ⟨b, 11, none⟩) (v := .slice (some ⟨b4, o4, none⟩) 1 na) y11 (by simp), h.cell (p := ⟨b4, o4, none⟩) (v := .slice n4 (o.Q 0).nl nc4) q4 (by simp), h.cell (p := ⟨w.heap.size + 1 + 1, 11, none⟩) (v := .slice (some ⟨b5, o5, none⟩) 1 oc0) y12 (by simp), h.cell (p := ⟨b5, o5, none⟩) (v := .slice n5 (o.Q 0).nl nc5) q5 (by simp)⟩)
              have HS0 := Lib.hid (HSK.out W.drew (Fr.refl _ _))
              clear hq2 hq3 hc4 hc5 hF4 hF5 rd4 rd5 q4 q5 hb4 hb5 htx y11 y12
              go_region_held3 (fun wx => wx.cell? ⟨b, 11, none⟩ = some (.slice (some ⟨b4, o4, none⟩) 1 na) ∧ wx.cell? ⟨b4, o4, none⟩ = some (.slice n4 (o.Q 0).nl nc4) ∧ wx.cell? ⟨w.heap.size + 1 + 1, 11, none⟩ = some (.slice (some ⟨b5, o5, none⟩) 1 oc0) ∧ wx.cell? ⟨b5, o5, none⟩ = some (.slice n5 (o.Q 0).nl nc5))
                (first | exact HS0.out | exact HSY.out | fail) ((go_at_call 14; refine HTX.out.mono ?_; rintro e5 wy ⟨rfl, qq, rfl⟩; have HSY := Lib.hid (HSK.out (W.drew.drewN qq) ((Fr.refl [] W.drew).drewN qq)); have HFZ := Lib.hid (show Fr [] W (W.drewN (1 + qq)) from (Fr.refl [] W).drewN _)))
              clear HSY HS0 HSK HTX
              generalize W.drewN (1 + qq) = wz at *
              have hrb := range_pre [.int .i64 j0, .bool i1, .int .i64 i2, .bool i3, .bool i4, .bool j5, .bool i6, .bool i7, .bool i8, .bool i9, .int .i64 i10] [.slice (some ⟨b4, o4, none⟩) o.qn na, .slice mb a.an nb, .slice mc a.un nc, .slice md a.mn nd] (range_blk (HFZ.out.blk HBB.out (by simp)))
              have hro := range_blk (HFZ.out.blk HBW.out (by simp))
              have HEND := Lib.hid (HWW.out.trans HFZ.out (by simp))
              go_wp2_with (first
                | (refine wpList_load_mid rfl 23 (.tmp 231) rfl b 0 rfl [.int .i64 j0, .bool i1, .int .i64 i2, .bool i3, .bool i4, .bool j5, .bool i6, .bool i7, .bool i8, .bool i9, .int .i64 i10] _ hrb Try.underlying23 rfl (by kernel_rfl) ?_)
                | (refine wpList_load_mid rfl 23 (.tmp 29) rfl wr.heap.size 0 rfl [.int .i64 j0, .bool i1, .int .i64 i2, .bool i3, .bool i4, .bool j5, .bool i6, .bool i7, .bool i8, .bool i9, .int .i64 i10] _ hro Try.underlying23 rfl (by kernel_rfl) ?_)
                | fail)
              go_ret
              exact ⟨rfl, HEND.out⟩

end Go.Proofs.Ytcfdlilhhfaaaaa
