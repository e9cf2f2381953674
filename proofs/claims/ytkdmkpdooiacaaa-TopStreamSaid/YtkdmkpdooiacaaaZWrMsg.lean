/- msg.Write: the bytes of a message. -/
import Derived.Test.YtkdmkpdooiacaaaZWrMsg0
namespace Go.Proofs.Ytkdmkpdooiacaaa
open Go.RowKit

def cnt4 (a b c d : Nat) : Nat → Int
  | 0 => a
  | 1 => b
  | 2 => c
  | _ => d

theorem cnt4_lst (m : Ms) : cntL m.lst = cnt4 m.qn m.an m.un m.mn := by
  funext k
  match k with
  | 0 => simp [cntL, cnt4, Ms.lst]
  | 1 => simp [cntL, cnt4, Ms.lst]
  | 2 => simp [cntL, cnt4, Ms.lst]
  | k + 3 => simp [cntL, cnt4, Ms.lst]

theorem cnt4_big {a b c d k : Nat} (hk : k < 4) (h : 65535 < cnt4 a b c d k) : 65535 < a ∨ 65535 < b ∨ 65535 < c ∨ 65535 < d := by
  match k, hk with
  | 0, _ => simp only [cnt4] at h; omega
  | 1, _ => simp only [cnt4] at h; omega
  | 2, _ => simp only [cnt4] at h; omega
  | 3, _ => simp only [cnt4] at h; omega

theorem cnt4_all {a b c d : Nat} (h : ∀ j, j < 4 → cnt4 a b c d j ≤ 65535) : a ≤ 65535 ∧ b ≤ 65535 ∧ c ≤ 65535 ∧ d ≤ 65535 := by
  have h0 := h 0 (by decide)
  have h1 := h 1 (by decide)
  have h2 := h 2 (by decide)
  have h3 := h 3 (by decide)
  simp only [cnt4] at h0 h1 h2 h3
  omega

theorem cnt4_ge (a b c d k : Nat) : 0 ≤ cnt4 a b c d k := by
  match k with
  | 0 => simp [cnt4]
  | 1 => simp [cnt4]
  | 2 => simp [cnt4]
  | k + 3 => simp [cnt4]

theorem ix_cnt (a b c d : Nat) (k : Nat) (hk : k < 4) : ∀ u : World, (Instr.index 51 (.agg #[.int .i64 (a : Nat), .int .i64 (b : Nat), .int .i64 (c : Nat), .int .i64 (d : Nat)]) (.int .i64 k)).run Try.prog u = .ok (.int .i64 (cnt4 a b c d k)) u := ix_c4 (cnt4 a b c d) k hk

/-- a section's slice -/
def sl3 (aa : Option Addr) (an ac : Nat) (ua : Option Addr) (un uc : Nat) (ma : Option Addr) (mn mc : Nat) : Nat → Value := msV3 (.slice aa an ac) (.slice ua un uc) (.slice ma mn mc)

theorem mc_get {H : Hd} {q a u m : Value} {k : Nat} (hk : k < 3) : (msgCs H q a u m)[12 + k]? = some (msV3 a u m k) := by
  match k, hk with
  | 0, _ => rfl
  | 1, _ => rfl
  | 2, _ => rfl

set_option maxHeartbeats 8000000 in
set_option maxRecDepth 100000 in
theorem writeM_any (w : World) (B : HB) (m : Ms) (vq va vu vm : Value) (hm : MsOk B w m vq va vu vm) :
    Calls Try.prog 6 #[msgV m.h vq va vu vm] w (WrMGood w (wrMsg m.lst)) := by
  obtain ⟨FQ, hQ⟩ := hm.hq
  have HQ := Lib.hid hQ
  have HS := Lib.hid (fun k => hm.sec k)
  have HHW := Lib.hid (fun (wx : World) => headWriteX_any wx m.h hm.hh)
  have HWM := Lib.hid (wrMsg_S m.lst)
  obtain ⟨qa, qc, rfl⟩ := hQ.rd.slice
  obtain ⟨FA, hA⟩ := hm.ha
  obtain ⟨FU, hU⟩ := hm.hu
  obtain ⟨FM, hM⟩ := hm.hm
  obtain ⟨aa, ac, rfl⟩ := hA.rd.slice
  obtain ⟨ua, uc, rfl⟩ := hU.rd.slice
  obtain ⟨ma, mc, rfl⟩ := hM.rd.slice
  clear hA hU hM hQ FA FU FM
  rw [show m.lst.h = m.h from rfl] at HWM
  have HCN := Lib.hid (cnt4_lst m)
  have HTP := Lib.hid (wrTop_K m.lst)
  rw [show m.lst.h = m.h from rfl, HCN.out] at HTP
  have HLQ := Lib.hid (show m.lst.qs.length = m.qn from by simp [Ms.lst])
  have HLN := Lib.hid (show m.lst.an.length = m.an ∧ m.lst.un.length = m.un ∧ m.lst.mn.length = m.mn from by simp [Ms.lst])
  rw [HLQ.out, HLN.out.1, HLN.out.2.1, HLN.out.2.2] at HWM
  have HQG := Lib.hid (fun i hi => qs_get m i hi)
  have HSG := Lib.hid (fun k i hi => secL_get m k i hi)
  have HSL := Lib.hid (fun k => secL_len m k)
  have HN0 := Lib.hid (show msN m 0 = m.an ∧ msN m 1 = m.un ∧ msN m 2 = m.mn from ⟨rfl, rfl, rfl⟩)
  obtain ⟨QM, hQM⟩ : ∃ Q, m.Q = Q := ⟨_, rfl⟩
  rw [hQM] at HQ HQG
  clear hQM
  obtain ⟨H, hH⟩ : ∃ H, m.h = H := ⟨_, rfl⟩
  rw [hH] at HWM HHW HTP ⊢
  obtain ⟨qn, hqn⟩ : ∃ n, m.qn = n := ⟨_, rfl⟩
  rw [hqn] at HQ HWM HCN HTP HLQ HQG ⊢
  obtain ⟨an, han⟩ : ∃ n, m.an = n := ⟨_, rfl⟩
  rw [han] at HS HWM HCN HTP HLN HN0 ⊢
  obtain ⟨un, hun⟩ : ∃ n, m.un = n := ⟨_, rfl⟩
  rw [hun] at HS HWM HCN HTP HLN HN0 ⊢
  obtain ⟨mn, hmn⟩ : ∃ n, m.mn = n := ⟨_, rfl⟩
  rw [hmn] at HS HWM HCN HTP HLN HN0 ⊢
  clear hH hqn han hun hmn hm
  generalize wrMsg m.lst = R at *
  unfold hdV HeadX at HHW
  have HMB := Lib.hid (heap_alloc_new w (.cells #[.int .i64 H.id, .bool H.an, .int .i64 H.op, .bool H.aa, .bool H.tc, .bool H.rd, .bool H.ra, .bool H.z, .bool H.ad, .bool H.cd, .int .i64 H.code, .slice qa qn qc, .slice aa an ac, .slice ua un uc, .slice ma mn mc] 37))
  have HF0 := Lib.hid ((Fr.refl [] w).alloc (.cells #[.int .i64 H.id, .bool H.an, .int .i64 H.op, .bool H.aa, .bool H.tc, .bool H.rd, .bool H.ra, .bool H.z, .bool H.ad, .bool H.cd, .int .i64 H.code, .slice qa qn qc, .slice aa an ac, .slice ua un uc, .slice ma mn mc] 37))
  simp only [msgV]
  go_enter Try.func6, Try.ntmps6
  go_wp2_with fail
  generalize w.alloc (.cells #[.int .i64 H.id, .bool H.an, .int .i64 H.op, .bool H.aa, .bool H.tc, .bool H.rd, .bool H.ra, .bool H.z, .bool H.ad, .bool H.cd, .int .i64 H.code, .slice qa qn qc, .slice aa an ac, .slice ua un uc, .slice ma mn mc] 37) = w1 at *
  with_reducible refine (HHW.out w1).mono ?_
  rintro e w2 ⟨⟨hok, v0, rfl, ho0⟩ | ⟨hok, rfl⟩, hf2⟩
  case inr =>
    have HR := Lib.hid (show R = .error 6 from by rw [HWM.out, if_pos hok])
    have HF2 := Lib.hid (HF0.out.trans hf2 (by simp))
    clear hok hf2 HWM
    go_wp2
    refine bodyPost_ret (v := .tuple #[.slice none 0 0, .iface 52 (.int .i64 6)]) (by simp [results, Try.results6, go_sem]) rfl ?_
    exact ⟨.inl ⟨6, HR.out, (by decide), rfl⟩, HF2.out⟩
  rw [if_neg (by simpa using hok)] at HWM
  have HM2 := Lib.hid (hf2.blk HMB.out (by simp))
  have HF2 := Lib.hid (HF0.out.trans hf2 (by simp))
  have HO2 := Lib.hid (OwnF.mono ho0 HF0.out.size)
  clear hok hf2 ho0 HMB HF0 HHW
  obtain ⟨oa, oc, rfl⟩ := HO2.out.rd.slice
  have HP3 := Lib.hid (heap_alloc_new w2 (.cells #[.slice oa (hdL H).length oc, .slice none 0 0] 50))
  have hf3 : Fr [] w2 (w2.alloc (.cells #[.slice oa (hdL H).length oc, .slice none 0 0] 50)) := (Fr.refl [] w2).alloc _
  have HM3 := Lib.hid (hf3.blk HM2.out (by simp))
  have HF3 := Lib.hid (HF2.out.trans hf3 (by simp))
  have HW3 := Lib.hid (show WAt (w2.alloc (.cells #[.slice oa (hdL H).length oc, .slice none 0 0] 50)) w2.heap.size w.heap.size (hdL H, []) from ⟨oa, oc, none, 0, HP3.out, OwnF.kept HO2.out hf3 (fun _ _ => by simp), OwnF.nil _ _ _ _⟩)
  have HPG := Lib.hid (show w.heap.size < w2.heap.size from lt_of_blk HM2.out)
  have m11 := blk_cell HM3.out 11 (v := .slice qa qn qc) rfl
  have m12 := blk_cell HM3.out 12 (v := .slice aa an ac) rfl
  have m13 := blk_cell HM3.out 13 (v := .slice ua un uc) rfl
  have m14 := blk_cell HM3.out 14 (v := .slice ma mn mc) rfl
  clear hf3 HM2 HF2 HO2 HP3
  go_wp2_with fail
  clear m11 m12 m13 m14
  generalize w2.alloc (.cells #[.slice oa (hdL H).length oc, .slice none 0 0] 50) = w3 at *
  generalize hpp : w2.heap.size = p at *
  clear hpp
  have HIX := Lib.hid (fun k hk => ix_cnt qn an un mn k hk)
  generalize hC : cnt4 qn an un mn = C at *
  have HC := Lib.hid hC
  clear hC
  have HHL := Lib.hid (show (hdL H).length = 4 from rfl)
  go_loopw [8, 42] (fun _ vi wr => ∃ (k : Nat), k ≤ 4 ∧ vi = .int .i64 k ∧ Hid (∀ j, j < k → C j ≤ 65535) ∧ WAt wr p w.heap.size (hdL H ++ twoK C k, []) ∧ wr.heap[w.heap.size]? = some (.cells #[.int .i64 H.id, .bool H.an, .int .i64 H.op, .bool H.aa, .bool H.tc, .bool H.rd, .bool H.ra, .bool H.z, .bool H.ad, .bool H.cd, .int .i64 H.code, .slice qa qn qc, .slice aa an ac, .slice ua un uc, .slice ma mn mc] 37 (0, 0)) ∧ Fr [] w wr) (fun _ vi _ => 4 - (intOf vi).toNat)
  case atStart => exact ⟨0, by omega, rfl, Lib.hid (fun j hj => by omega), by simpa [twoK] using HW3.out, HM3.out, HF3.out⟩
  case round =>
    clear HW3 HM3 HF3
    obtain ⟨k, hk, rfl, HCK, hw, hmb, hf⟩ := hrel
    obtain ⟨va, vc, sa, sc, hp, ho, hs⟩ := hw
    have HP := Lib.hid hp
    have HM := Lib.hid hmb
    have HF := Lib.hid hf
    have HO := Lib.hid ho
    have HA := Lib.hid hs
    simp only at HP HO HA
    clear hp hmb hf ho hs
    by_cases h4 : k < 4
    · have hix := HIX.out k h4
      have HX0 := Lib.hid (show 0 ≤ C k from by rw [← HC.out]; exact cnt4_ge _ _ _ _ _)
      have HBG := Lib.hid (show 65535 < C k → (65535 < qn ∨ 65535 < an ∨ 65535 < un ∨ 65535 < mn) from fun h => cnt4_big h4 (by rw [HC.out]; exact h))
      have k0 : (k : Int) < 4 := by omega
      by_cases hx : 65535 < C k
      · have HR := Lib.hid (show R = .error 7 from by rw [HWM.out, if_pos (HBG.out hx)])
        clear HBG HX0 HCK HWM h4
        generalize C k = x at *
        go_wp2
        refine bodyPost_ret (v := .tuple #[.slice none 0 0, .iface 52 (.int .i64 7)]) (by simp [results, Try.results6, go_sem]) rfl ?_
        exact ⟨.inl ⟨7, HR.out, (by decide), rfl⟩, HF.out⟩
      · have HCK2 := Lib.hid (show ∀ j, j < k + 1 → C j ≤ 65535 from fun j hj => by
          by_cases e : j = k
          · subst e; omega
          · exact HCK.out j (by omega))
        have HTK := Lib.hid (show hdL H ++ twoK C (k + 1) = (hdL H ++ twoK C k) ++ two (C k) from by simp only [twoK, List.append_assoc])
        have HLN4 := Lib.hid (show (hdL H ++ twoK C k).length = 4 + 2 * k from by rw [List.length_append, twoK_len, HHL.out])
        have HK := Lib.hid h4
        generalize C k = x at *
        generalize hdL H ++ twoK C k = L at *
        have HV := Lib.hid (two_val HX0.out (by omega : x ≤ 65535))
        have HLW := Lib.hid (show (two x).length = 2 ∧ (two x).length ≤ maxLen from ⟨rfl, by unfold two maxLen; simp⟩)
        have x0 := HX0.out
        generalize hlv : L.length = lv at *
        have HLV := Lib.hid hlv
        have c0 := blk_cell HP.out 0 (v := .slice va lv vc) rfl
        have z0 := blk_frozen HP.out 0
        clear HBG HCK HX0 h4 hlv
        go_wp2_with (first
          | (at_builtin
             refine wpList_app rfl (.tmp 52) (.tmp 58) 27 rfl 5 infoU8 Try.underlying27 rfl (OwnF.alloc HO.out _) rfl (own_lit (w := wr) (l := two x) (B := w.heap.size) HF.out.size HV.out HLW.out.2).rd rfl (fun _ _ => rfl) (by unfold maxLen; have := HLN4.out; have := HLV.out; have := HLW.out.1; omega) (by have := HLN4.out; have := HLV.out; have := HLW.out.1; omega) (by simp; have := HF.out.size; omega) ?_
             intro v3 w4 hown3 hfr3 _
             have HT4 := Lib.hid (((FrT.refl 5 wr).alloc (.cells #[.int .u8 (x / 256), .int .u8 (x % 256)] 5)).own (OwnF.alloc HO.out _) hfr3)
             have HP4 := Lib.hid (HT4.out.blk HP.out (by decide))
             have HM4 := Lib.hid (HT4.out.blk HM.out (by decide))
             have HA4 := Lib.hid (OwnF.frT HA.out HT4.out (by decide))
             have HF4 := Lib.hid (show Fr [] w w4 from (HF.out.alloc _).trans hfr3 (fun x hx => .inr (OwnF.ge HO.out x hx)))
             have HO4 := Lib.hid (show OwnB w4 w.heap.size v3 (L ++ two x) from OwnB.more hown3 (two x) rfl (fun j hj => rfl))
             clear hown3 hfr3
             obtain ⟨oa3, oc3, he3⟩ := HO4.out.rd.slice
             subst he3
             have c4 := blk_cell HP4.out 0 (v := .slice va lv vc) rfl
             have z4 := blk_frozen HP4.out 0
             generalize hM : L ++ two x = M at *
             clear hM
             generalize hml : M.length = ml at *
             have HML := Lib.hid hml
             clear hml
             have HP5 := Lib.hid (show (w4.setCell ⟨p, 0, none⟩ (.slice oa3 ml oc3)).heap[p]? = some (.cells #[.slice oa3 ml oc3, .slice sa ([] : List Nat).length sc] 50 (0, 0)) from blk_setk HP4.out 0 (.slice oa3 ml oc3))
             have hf5 : Fr [p] w4 (w4.setCell ⟨p, 0, none⟩ (.slice oa3 ml oc3)) := (Fr.refl [p] w4).setCell (p := ⟨p, 0, none⟩) (.inl (by simp)) (.slice oa3 ml oc3)
             have HO5 := Lib.hid (show OwnB (w4.setCell ⟨p, 0, none⟩ (.slice oa3 ml oc3)) w.heap.size (.slice oa3 ml oc3) M from OwnF.keptW HO4.out hf5 HP4.out (by decide))
             have HA5 := Lib.hid (OwnF.keptW HA4.out hf5 HP4.out (by decide))
             have HM5 := Lib.hid (hf5.blk HM4.out (by have := HPG.out; simp; omega))
             have HF5 := Lib.hid (HF4.out.trans hf5 (S := []) (fun y hy => .inr (by have := HPG.out; simp at hy; omega)))
             clear hf5
             go_wp2)
          | fail)
        go_roundw
        case rel => exact ⟨k + 1, by have := HK.out; omega, by go_num, HCK2, by rw [HTK.out]; exact ⟨oa3, oc3, sa, sc, by rw [HML.out]; exact HP5.out, by rw [HML.out]; exact HO5.out, HA5.out⟩, HM5.out, HF5.out⟩
        case measure => (have := HK.out; simp [intOf]; omega)
    · have HK4 := Lib.hid (show k = 4 from by omega)
      have k0 : ¬ (k : Int) < 4 := by omega
      obtain ⟨b1, b2, b3, b4⟩ := cnt4_all (a := qn) (b := an) (c := un) (d := mn) (by rw [HC.out]; have := HCK.out; rw [HK4.out] at this; exact this)
      have hwm := HWM.out
      rw [if_neg (by omega)] at hwm
      have HR := Lib.hid hwm
      have HBD := Lib.hid (And.intro b1 (And.intro b2 (And.intro b3 b4)))
      rw [HK4.out, HTP.out] at HO HP
      have HWT := Lib.hid (show WAt wr p w.heap.size (wrTop m.lst, []) from ⟨va, vc, sa, sc, HP.out, HO.out, HA.out⟩)
      have m11 := blk_cell HM.out 11 (v := .slice qa qn qc) rfl
      have HQB := Lib.hid (fun (wx : World) (hx : Fr [] w wx) => HQ.out.frH (hx.hot0 B))
      have HTL := Lib.hid (show (wrTop m.lst).length = 12 from rfl)
      clear hwm HWM HP HO HA HTP HCK HIX HC h4 b1 b2 b3 b4 HQ HK4 hk
      go_wp2_with fail
      clear m11
      go_loopw [66] (fun vi wr => ∃ (k : Nat) (o : List UInt8 × List Nat), k ≤ qn ∧ vi = .int .i64 k ∧ Hid (wrK wrQ m.lst.qs (wrTop m.lst, []) k = .ok o) ∧ WAt wr p w.heap.size o ∧ wr.heap[w.heap.size]? = some (.cells #[.int .i64 H.id, .bool H.an, .int .i64 H.op, .bool H.aa, .bool H.tc, .bool H.rd, .bool H.ra, .bool H.z, .bool H.ad, .bool H.cd, .int .i64 H.code, .slice qa qn qc, .slice aa an ac, .slice ua un uc, .slice ma mn mc] 37 (0, 0)) ∧ Fr [] w wr) (fun vi _ => qn - (intOf vi).toNat)
      case atStart => exact ⟨0, _, by omega, rfl, Lib.hid rfl, HWT.out, HM.out, HF.out⟩
      case round =>
        clear HWT HM HF
        obtain ⟨k, o, hk, rfl, HW, hw, hmb, hf⟩ := hrel
        have HM := Lib.hid hmb
        have HF := Lib.hid hf
        have HWA := Lib.hid hw
        have HOB := Lib.hid (show o.1.length ≤ 12 + 70000 * 65535 ∧ o.2.length ≤ 127 * 65535 from by
          have h1 := wrK_bd (fun _ _ _ h => wrQ_bd h) HW.out
          have h2 := HBD.out.1
          have h3 := HTL.out
          have h4 : 70000 * k ≤ 70000 * 65535 := Nat.mul_le_mul_left _ (by omega)
          have h5 : 127 * k ≤ 127 * 65535 := Nat.mul_le_mul_left _ (by omega)
          simp only [List.length_nil] at h1
          omega)
        clear hmb hf hw
        by_cases hlt : k < qn
        · have hqb := HQB.out wr HF.out
          obtain ⟨b, o1, c1, he1, _, _, _, hc1⟩ := hqb.rd.shape (by omega) (by decide)
          simp only [Value.slice.injEq, true_and] at he1
          obtain ⟨rfl, rfl⟩ := he1
          obtain ⟨na, nc, hF, hrn, _⟩ := hqb.at_ k hlt
          have hwf := hqb.wf k hlt
          have q0 := hc1 k 0 hlt (by decide)
          have q1 := hc1 k 1 hlt (by decide)
          have q2 := hc1 k 2 hlt (by decide)
          rw [hF 0 (by decide)] at q0
          rw [hF 1 (by decide)] at q1
          rw [hF 2 (by decide)] at q2
          simp only [Qs.F, Nat.add_zero] at q0 q1 q2
          have HST := Lib.hid (show wrK wrQ m.lst.qs (wrTop m.lst, []) (k + 1) = wrQ o (QM k).lst from wrK_step HW.out (HQG.out k hlt))
          have HRE := Lib.hid (show ∀ z, wrK wrQ m.lst.qs (wrTop m.lst, []) (k + 1) = .error z → R = .error z from fun z h => by
            rw [HR.out, wrK_err h qn hlt]; rfl)
          have HQO := Lib.hid (fun (wx : World) (hx : Fr [] wr wx) => wrtQue_any wx p w.heap.size o (HWA.out.fr0 hx) (by have := HOB.out.1; omega) (by have := HOB.out.2; omega) (QM k).lst na nc ((nm_rd hrn).fr hx (by simp)) (nm_sz hwf.nms) hwf.ty0 hwf.cl0)
          have HLL := Lib.hid (show (QM k).lst.nm.length = (QM k).nl from by simp [Qs.lst])
          rw [HLL.out, show (QM k).lst.ty = (QM k).ty from rfl, show (QM k).lst.cl = (QM k).cl from rfl] at HQO
          generalize (QM k).lst = q at *
          generalize (QM k).nl = ql at *
          generalize (QM k).ty = qt at *
          generalize (QM k).cl = ql2 at *
          have k0 : (0 : Int) ≤ (k : Int) := by omega
          have k1 : (k : Int) < (qn : Int) := by omega
          have HK := Lib.hid hlt
          clear hqb hc1 hF hrn hwf hlt
          have hf6 : Fr [] wr (wr.alloc (.cells #[.slice na ql nc, .int .i64 qt, .int .i64 ql2] 56)) := (Fr.refl [] wr).alloc _
          have HCL := Lib.hid (HQO.out _ hf6)
          have HM6 := Lib.hid (hf6.blk HM.out (by simp))
          have HF6 := Lib.hid (HF.out.trans hf6 (by simp))
          clear hf6 HQO HM HWA HF
          go_wp2_with fail
          with_reducible refine HCL.out.mono ?_
          rintro e w7 ⟨h7, hf7⟩
          have HM7 := Lib.hid (hf7.blk HM6.out (by have := HPG.out; simp; omega))
          have HF7 := Lib.hid (HF6.out.trans hf7 (S := []) (fun y hy => .inr (by have := HPG.out; simp at hy; omega)))
          clear hf7 q0 q1 q2
          rcases h7 with ⟨z, hz, hz0, rfl⟩ | ⟨o', ho', rfl, hw'⟩
          · have HRR := Lib.hid (HRE.out z (by rw [HST.out, hz]))
            have HZ := Lib.hid hz0
            clear hz hz0 HRE HST HCL
            go_wp2
            refine bodyPost_ret (v := .tuple #[.slice none 0 0, .iface 52 (.int .i64 z)]) (by simp [results, Try.results6, go_sem]) rfl ?_
            exact ⟨.inl ⟨z, HRR.out, HZ.out, rfl⟩, HF7.out⟩
          · have HW7 := Lib.hid (show wrK wrQ m.lst.qs (wrTop m.lst, []) (k + 1) = .ok o' from by rw [HST.out, ho'])
            have HWA7 := Lib.hid (hw'.mono HF6.out.size)
            have kb : (k : Int) ≤ 70000 := by have := HBD.out.1; have := HK.out; omega
            clear ho' hw' HRE HST HCL
            go_wp2
            go_roundw
            case rel => exact ⟨k + 1, o', by have := HK.out; omega, by go_num, HW7, HWA7.out, HM7.out, HF7.out⟩
            case measure => (have := HK.out; simp [intOf]; omega)
        · obtain rfl : k = qn := by omega
          have hr := HR.out
          rw [HW.out] at hr
          have HR2 := Lib.hid (show R = wrEnd (wrS m.lst o 3) from hr)
          have hkf : ¬ (k : Int) < (k : Int) := by omega
          clear hr HR hlt hk
          go_wp2_with fail
          with_reducible refine (sections_any wr w.heap.size).mono ?_
          rintro e w6 ⟨rfl, hf6⟩
          have HM6 := Lib.hid (hf6.blk HM.out (by simp))
          have HW6 := Lib.hid (HWA.out.fr0 hf6)
          have HF6 := Lib.hid (HF.out.trans hf6 (by simp))
          clear hf6 HM HWA HF
          have HIS := Lib.hid (fun g (hg : g < 3) => ix_se12 w.heap.size g hg)
          have HNB := Lib.hid (show ∀ g, g < 3 → msN m g ≤ 65535 from fun g hg => by
            have h1 := HBD.out
            have h2 := HN0.out
            match g, hg with
            | 0, _ => omega
            | 1, _ => omega
            | 2, _ => omega)
          have HDB := Lib.hid (show ∀ g, g < 3 → 70000 * (secL m.lst g).length ≤ 4587450000 ∧ 127 * (secL m.lst g).length ≤ 8322945 from fun g hg => by
            have h1 := HNB.out g hg
            rw [HSL.out]
            omega)
          go_wp2_with fail
          go_loopw [78] (fun vi wr => ∃ (g : Nat) (o' : List UInt8 × List Nat), g ≤ 3 ∧ vi = .int .i64 g ∧ Hid (wrS m.lst o g = .ok o') ∧ WAt wr p w.heap.size o' ∧ wr.heap[w.heap.size]? = some (.cells #[.int .i64 H.id, .bool H.an, .int .i64 H.op, .bool H.aa, .bool H.tc, .bool H.rd, .bool H.ra, .bool H.z, .bool H.ad, .bool H.cd, .int .i64 H.code, .slice qa k qc, .slice aa an ac, .slice ua un uc, .slice ma mn mc] 37 (0, 0)) ∧ Fr [] w wr) (fun vi _ => 3 - (intOf vi).toNat)
          case atStart => exact ⟨0, o, by omega, rfl, Lib.hid rfl, HW6.out, HM6.out, HF6.out⟩
          case round =>
            clear HW6 HM6 HF6
            obtain ⟨g, o', hg, rfl, HWS, hw, hmb, hf⟩ := hrel
            have HM := Lib.hid hmb
            have HF := Lib.hid hf
            have HWA := Lib.hid hw
            clear hmb hf hw
            by_cases h3 : g < 3
            · have hix := HIS.out g h3
              obtain ⟨FS, hS⟩ := HS.out g
              obtain ⟨xa, xc, hv⟩ := hS.rd.slice
              have HSB := Lib.hid (fun (wx : World) (hx : Fr [] w wx) => hS.frH (hx.hot0 B))
              rw [hv] at HSB
              have c12 : wr.cell? ⟨w.heap.size, 12 + g, none⟩ = some (.slice xa (msN m g) xc) := blk_cell HM.out (12 + g) ((mc_get (H := H) (q := .slice qa k qc) h3).trans (by rw [hv]))
              have HNG := Lib.hid (HNB.out g h3)
              have HGG := Lib.hid (fun i hi => HSG.out g i hi)
              have HST := Lib.hid (wrS_step HWS.out)
              rw [HSL.out] at HST
              have HRE := Lib.hid (show ∀ z, wrS m.lst o (g + 1) = .error z → R = .error z from fun z h => by rw [HR2.out, wrS_err h 3 h3]; rfl)
              have HOB2 := Lib.hid (show o'.1.length ≤ 20000000000 ∧ o'.2.length ≤ 40000000 from by
                have h1 := wrS_bd HDB.out (Nat.le_of_lt h3) HWS.out
                have h2 := HOB.out
                have h4 : 4587450000 * g ≤ 4587450000 * 3 := Nat.mul_le_mul_left _ (by omega)
                have h5 : 8322945 * g ≤ 8322945 * 3 := Nat.mul_le_mul_left _ (by omega)
                omega)
              have k0 : (g : Int) < 3 := by omega
              have HG3 := Lib.hid h3
              clear hS hv h3
              obtain ⟨SR, hSR⟩ : ∃ S, msR m g = S := ⟨_, rfl⟩
              rw [hSR] at HSB HGG
              obtain ⟨N, hN⟩ : ∃ N, msN m g = N := ⟨_, rfl⟩
              rw [hN] at HSB HGG HNG HST c12
              clear hSR hN
              go_wp2_with fail
              clear c12 hix
              go_loopw [85] (fun vi wr => ∃ (t : Nat) (y : List UInt8 × List Nat), t ≤ N ∧ vi = .int .i64 t ∧ Hid (wrK wrR (secL m.lst g) o' t = .ok y) ∧ WAt wr p w.heap.size y ∧ wr.heap[w.heap.size]? = some (.cells #[.int .i64 H.id, .bool H.an, .int .i64 H.op, .bool H.aa, .bool H.tc, .bool H.rd, .bool H.ra, .bool H.z, .bool H.ad, .bool H.cd, .int .i64 H.code, .slice qa k qc, .slice aa an ac, .slice ua un uc, .slice ma mn mc] 37 (0, 0)) ∧ Fr [] w wr) (fun vi _ => N - (intOf vi).toNat)
              case atStart => exact ⟨0, o', by omega, rfl, Lib.hid rfl, HWA.out, HM.out, HF.out⟩
              case round =>
                clear HWA HM HF
                obtain ⟨t, y, ht, rfl, HWK, hw, hmb, hf⟩ := hrel
                have HM := Lib.hid hmb
                have HF := Lib.hid hf
                have HWA := Lib.hid hw
                clear hmb hf hw
                by_cases hlt : t < N
                · have hqb := HSB.out wr HF.out
                  obtain ⟨b, o1, c1, he1, _, _, _, hc1⟩ := hqb.rd.shape (by omega) (by decide)
                  simp only [Value.slice.injEq, true_and] at he1
                  obtain ⟨rfl, rfl⟩ := he1
                  obtain ⟨na, nc, da, dc, hF, hrk⟩ := hqb.at_ t hlt
                  have hwf := hqb.wf t hlt
                  have q0 := hc1 t 0 hlt (by decide)
                  have q1 := hc1 t 1 hlt (by decide)
                  have q2 := hc1 t 2 hlt (by decide)
                  have q3 := hc1 t 3 hlt (by decide)
                  have q4 := hc1 t 4 hlt (by decide)
                  rw [hF 0 (by decide)] at q0
                  rw [hF 1 (by decide)] at q1
                  rw [hF 2 (by decide)] at q2
                  rw [hF 3 (by decide)] at q3
                  rw [hF 4 (by decide)] at q4
                  simp only [Rs.F, Nat.add_zero] at q0 q1 q2 q3 q4
                  have HSTK := Lib.hid (show wrK wrR (secL m.lst g) o' (t + 1) = wrR y (SR t).lst from wrK_step HWK.out (HGG.out t hlt))
                  have HRK := Lib.hid (show ∀ z, wrK wrR (secL m.lst g) o' (t + 1) = .error z → R = .error z from fun z h => HRE.out z (by rw [HST.out, wrK_err h N hlt]))
                  have HYB := Lib.hid (show y.1.length ≤ 30000000000 ∧ y.2.length ≤ 50000000 from by
                    have h1 := wrK_bd (fun _ _ _ h => wrR_bd h) HWK.out
                    have h2 := HOB2.out
                    have h3 := HNG.out
                    have h4 : 70000 * t ≤ 70000 * 65535 := Nat.mul_le_mul_left _ (by omega)
                    have h5 : 127 * t ≤ 127 * 65535 := Nat.mul_le_mul_left _ (by omega)
                    omega)
                  have HQO := Lib.hid (fun (wx : World) (hx : Fr [] wr wx) => wrtRec_any wx p w.heap.size y (HWA.out.fr0 hx) (by have := HYB.out.1; omega) (by have := HYB.out.2; omega) (SR t).lst na nc da dc ((nm_rd hrk.rdn).fr hx (by simp)) (nm_sz hwf.nms) ((dt_rd hwf.dt0 hrk.rdd).fr hx (by simp)) (by have := hwf.dlb; simp [Rs.lst]; omega) hwf.ty0 hwf.cl0 hwf.tt0)
                  have HLL := Lib.hid (show (SR t).lst.nm.length = (SR t).nl ∧ (SR t).lst.dt.length = (SR t).dl from by simp [Rs.lst])
                  rw [HLL.out.1, HLL.out.2, show (SR t).lst.ty = (SR t).ty from rfl, show (SR t).lst.cl = (SR t).cl from rfl, show (SR t).lst.tt = (SR t).tt from rfl] at HQO
                  generalize (SR t).lst = q at *
                  generalize (SR t).nl = ql at *
                  generalize (SR t).dl = qd at *
                  generalize (SR t).ty = qt at *
                  generalize (SR t).cl = ql2 at *
                  generalize (SR t).tt = qtt at *
                  have k1 : (0 : Int) ≤ (t : Int) := by omega
                  have k2 : (t : Int) < (N : Int) := by omega
                  have HK := Lib.hid hlt
                  clear hqb hc1 hF hrk hwf hlt
                  have hf6 : Fr [] wr (wr.alloc (.cells #[.slice na ql nc, .int .i64 qt, .int .i64 ql2, .int .i64 qtt, .slice da qd dc] 63)) := (Fr.refl [] wr).alloc _
                  have HCL := Lib.hid (HQO.out _ hf6)
                  have HM6 := Lib.hid (hf6.blk HM.out (by simp))
                  have HF6 := Lib.hid (HF.out.trans hf6 (by simp))
                  clear hf6 HQO HM HWA HF
                  go_wp2_with fail
                  with_reducible refine HCL.out.mono ?_
                  rintro e w7 ⟨h7, hf7⟩
                  have HM7 := Lib.hid (hf7.blk HM6.out (by have := HPG.out; simp; omega))
                  have HF7 := Lib.hid (HF6.out.trans hf7 (S := []) (fun y hy => .inr (by have := HPG.out; simp at hy; omega)))
                  clear hf7 q0 q1 q2 q3 q4
                  rcases h7 with ⟨z, hz, hz0, rfl⟩ | ⟨y', ho', rfl, hw'⟩
                  · have HRR := Lib.hid (HRK.out z (by rw [HSTK.out, hz]))
                    have HZ := Lib.hid hz0
                    clear hz hz0 HRE HSTK HCL HRK
                    go_wp2
                    refine bodyPost_ret (v := .tuple #[.slice none 0 0, .iface 52 (.int .i64 z)]) (by simp [results, Try.results6, go_sem]) rfl ?_
                    exact ⟨.inl ⟨z, HRR.out, HZ.out, rfl⟩, HF7.out⟩
                  · have HW7 := Lib.hid (show wrK wrR (secL m.lst g) o' (t + 1) = .ok y' from by rw [HSTK.out, ho'])
                    have HWA7 := Lib.hid (hw'.mono HF6.out.size)
                    have kb : (t : Int) ≤ 70000 := by have := HNG.out; have := HK.out; omega
                    clear ho' hw' HRE HSTK HCL HRK
                    go_wp2
                    go_roundw
                    case rel => exact ⟨t + 1, y', by have := HK.out; omega, by go_num, HW7, HWA7.out, HM7.out, HF7.out⟩
                    case measure => (have := HK.out; simp [intOf]; omega)
                · obtain rfl : t = N := by omega
                  have HWS2 := Lib.hid (show wrS m.lst o (g + 1) = .ok y from HST.out.trans HWK.out)
                  have kf2 : ¬ (t : Int) < (t : Int) := by omega
                  clear hlt HST HRE
                  go_wp2
                  go_roundw
                  case rel => exact ⟨g + 1, y, by have := HG3.out; omega, by go_num, HWS2, HWA.out, HM.out, HF.out⟩
                  case measure => (have := HG3.out; simp [intOf]; omega)
            · have HG3 := Lib.hid (show g = 3 from by omega)
              have k0 : ¬ (g : Int) < 3 := by omega
              have hr := HR2.out
              rw [← HG3.out, HWS.out] at hr
              simp only [wrEnd] at hr
              obtain ⟨va, vc, sa, sc, hp, ho, hs⟩ := HWA.out
              obtain ⟨X, Y⟩ := o'
              simp only at hp ho hr
              have c0 := blk_cell hp 0 (v := .slice va X.length vc) rfl
              have HO := Lib.hid ho
              clear hp ho hs h3 hg HR2 HWS HWA HM
              by_cases hl : 65535 < X.length
              · rw [if_pos hl] at hr
                have HRR := Lib.hid hr
                have k1 : (65535 : Int) < (X.length : Int) := by omega
                clear hr hl
                go_wp2
                refine bodyPost_ret (v := .tuple #[.slice none 0 0, .iface 52 (.int .i64 7)]) (by simp [results, Try.results6, go_sem]) rfl ?_
                exact ⟨.inl ⟨7, HRR.out, (by decide), rfl⟩, HF.out⟩
              · rw [if_neg hl] at hr
                have HRR := Lib.hid hr
                have k1 : ¬ (65535 : Int) < (X.length : Int) := by omega
                clear hr hl
                go_wp2
                refine bodyPost_ret (v := .tuple #[.slice va X.length vc, .nilIface]) (by simp [results, Try.results6, go_sem]) rfl ?_
                exact ⟨.inr ⟨X, va, vc, HRR.out, rfl, HO.out⟩, HF.out⟩

end Go.Proofs.Ytkdmkpdooiacaaa
