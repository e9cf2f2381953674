/- (*msg.writer).question. -/
import Derived.Test.YtkdmkpdooiacaaaZWrtRec
namespace Go.Proofs.Ytkdmkpdooiacaaa
open Go.RowKit

set_option maxHeartbeats 8000000 in
set_option maxRecDepth 100000 in
theorem wrtQue_any (w : World) (p B : Nat) (o : List UInt8 × List Nat) (hw : WAt w p B o) (hL : o.1.length ≤ 549755813888) (hsl : o.2.length ≤ 1099511627776) (q : Qc) (na : Option Addr) (nc : Nat)
    (hn : RdF w (.slice na q.nm.length nc) q.nm.length (strV q.nm)) (hss : ∀ j, j < q.nm.length → (q.nm.getD j .empty).size ≤ 140737488355328) (hty : -9223372036854775808 ≤ q.ty ∧ q.ty ≤ 9223372036854775807) (hcl : -9223372036854775808 ≤ q.cl ∧ q.cl ≤ 9223372036854775807) :
    Calls Try.prog 12 #[.pointer (some ⟨p, 0, none⟩), .agg #[.slice na q.nm.length nc, .int .i64 q.ty, .int .i64 q.cl]] w (WrtGood w p (wrQ o q)) := by
  obtain ⟨oa, oc, sa, sc, hp, ho, hs⟩ := hw
  have HWR := Lib.hid (fun (wx : World) (hx : Fr [] w wx) => packB_any wx oa oc o.1 (ho.rd.fr hx (fun b o c e => by simp)) (by omega) sa sc o.2 (hs.rd.fr hx (fun b o c e => by simp)) hsl na nc q.nm (hn.fr hx (by simp)) hss)
  have HQ := Lib.hid (show wrQ o q = match packR o q.nm with
    | .error e => .error e
    | .ok x => if ¬ (wordB q.ty ∧ wordB q.cl) then .error 6 else .ok (x.1 ++ (two q.ty ++ two q.cl), x.2) from by
    unfold wrQ packR
    by_cases h : nmF q.nm ≠ 0
    · rw [if_pos h, if_pos h]
    · rw [if_neg h, if_neg h])
  have HPL := Lib.hid (show ∀ x, packR o q.nm = .ok x → x.1.length ≤ o.1.length + 300 from fun x h => packR_len h)
  have HP := Lib.hid hp
  have HF0 := Lib.hid (show Fr [] w (w.alloc (.cells #[.slice na q.nm.length nc, .int .i64 q.ty, .int .i64 q.cl] 56)) from (Fr.refl [] w).alloc _)
  have HB0 := Lib.hid (heap_alloc_new w (.cells #[.slice na q.nm.length nc, .int .i64 q.ty, .int .i64 q.cl] 56))
  obtain ⟨O, A⟩ := o
  simp only at *
  unfold WrtGood
  generalize wrQ (O, A) q = R at *
  obtain ⟨nm, ty, cl⟩ := q
  simp only at *
  generalize packR (O, A) nm = PK at *
  clear hp ho hs hn hss hty hcl
  go_enter Try.func12, Try.ntmps12
  go_upto_region 1 with fail
  generalize w.alloc (.cells #[.slice na nm.length nc, .int .i64 ty, .int .i64 cl] 56) = w1 at *
  have c0 := blk_cell (HF0.out.blk HP.out (by simp)) 0 (v := .slice oa O.length oc) rfl
  have c1 := blk_cell (HF0.out.blk HP.out (by simp)) 1 (v := .slice sa A.length sc) rfl
  have q0 := blk_cell HB0.out 0 (v := .slice na nm.length nc) rfl
  have q1 := blk_cell HB0.out 1 (v := .int .i64 ty) rfl
  have q2 := blk_cell HB0.out 2 (v := .int .i64 cl) rfl
  have HFD := Lib.hid (show Fr [] w w1.drew from HF0.out.drew)
  cases PK with
  | error z =>
    have HWE := Lib.hid (fun (wx : World) (hx : Fr [] w wx) => (HWR.out wx hx).mono fun e w' h => h.err)
    have HR := Lib.hid (show R = .error z from HQ.out)
    clear HWR HQ HPL
    go_region_with (go_at_call 24; (with_reducible refine (HWE.out _ HFD.out).mono ?_); rintro e wx ⟨rfl, hz0, hf2⟩)
    all_goals
      have HF2 := Lib.hid (HFD.out.trans hf2 (by simp))
      have HZ := Lib.hid hz0
      clear hf2 hz0 c0 c1 q0 q1 q2 HFD HB0 HF0
      go_wp2
      go_ret
      exact ⟨.inl ⟨z, HR.out, HZ.out, rfl⟩, HF2.out.mono (S' := [p]) (by simp)⟩
  | ok x =>
    have HWE := Lib.hid (fun (wx : World) (hx : Fr [] w wx) => (HWR.out wx hx).mono fun e w' h => h.ok)
    obtain ⟨X, Y⟩ := x
    have hq := HQ.out
    simp only [] at hq
    have HQ2 := Lib.hid hq
    have HXL := Lib.hid (HPL.out _ rfl)
    simp only at HWE HXL
    clear HWR HPL HQ hq
    go_region_with (go_at_call 24; (with_reducible refine (HWE.out _ HFD.out).mono ?_); rintro e wx ⟨xa, xc, ya, yc, rfl, hx, hy, hf2⟩)
    all_goals
      have HP2 := Lib.hid (hf2.blk (show w1.drew.heap[p]? = _ from HF0.out.blk HP.out (by simp)) (by simp))
      have HB2 := Lib.hid (hf2.blk (show w1.drew.heap[w.heap.size]? = _ from HB0.out) (by simp))
      have HF2 := Lib.hid (HFD.out.trans hf2 (by simp))
      have HX := Lib.hid (show OwnB wx w.heap.size (.slice xa X.length xc) X from OwnF.mono hx HFD.out.size)
      have HY := Lib.hid (OwnF.mono hy HFD.out.size)
      clear hf2 hx hy c0 c1 q0 q1 q2 HFD HB0 HF0 HWE
      have q1 := blk_cell HB2.out 1 (v := .int .i64 ty) rfl
      have q2 := blk_cell HB2.out 2 (v := .int .i64 cl) rfl
      have hq2 := HQ2.out
      by_cases hok : 0 ≤ ty ∧ ty ≤ 65535 ∧ 0 ≤ cl ∧ cl ≤ 65535
      case neg =>
        rw [if_pos (fun h => hok ⟨h.1.1, h.1.2, h.2.1, h.2.2⟩)] at hq2
        have HR := Lib.hid hq2
        have HNO := Lib.hid hok
        clear hok hq2 HQ2
        by_cases k1 : 0 ≤ ty
        case neg =>
          have d1 : decide (ty < 0) = true := by simp; omega
          clear k1
          go_wp2
          go_ret
          exact ⟨.inl ⟨6, HR.out, by decide, rfl⟩, HF2.out.mono (S' := [p]) (by simp)⟩
        have d1 : decide (ty < 0) = false := by simp; omega
        by_cases k2 : ty ≤ 65535
        case neg =>
          have d2 : decide (65535 < ty) = true := by simp; omega
          clear k2
          go_wp2
          go_ret
          exact ⟨.inl ⟨6, HR.out, by decide, rfl⟩, HF2.out.mono (S' := [p]) (by simp)⟩
        have d2 : decide (65535 < ty) = false := by simp; omega
        by_cases k3 : 0 ≤ cl
        case neg =>
          have d3 : decide (cl < 0) = true := by simp; omega
          clear k3
          go_wp2
          go_ret
          exact ⟨.inl ⟨6, HR.out, by decide, rfl⟩, HF2.out.mono (S' := [p]) (by simp)⟩
        have d3 : decide (cl < 0) = false := by simp; omega
        have d4 : decide (65535 < cl) = true := by
          have := HNO.out
          simp
          omega
        go_wp2
        go_ret
        exact ⟨.inl ⟨6, HR.out, by decide, rfl⟩, HF2.out.mono (S' := [p]) (by simp)⟩
      rw [if_neg (fun h => h ⟨⟨hok.1, hok.2.1⟩, ⟨hok.2.2.1, hok.2.2.2⟩⟩)] at hq2
      have HR := Lib.hid hq2
      obtain ⟨k1, k2, k3, k4⟩ := hok
      clear hq2 HQ2
      have d1 : decide (ty < 0) = false := by simp; omega
      have d2 : decide (65535 < ty) = false := by simp; omega
      have d3 : decide (cl < 0) = false := by simp; omega
      have d4 : decide (65535 < cl) = false := by simp; omega
      have HV1 := Lib.hid (show [Value.int .u8 (ty / 256), .int .u8 (ty % 256), .int .u8 (cl / 256), .int .u8 (cl % 256)] = (two ty ++ two cl).map u8V from by
        rw [List.map_append, ← two_val k1 k2, ← two_val k3 k4]; rfl)
      have HLW := Lib.hid (show (two ty ++ two cl).length = 4 from rfl)
      have HLM := Lib.hid (show (two ty ++ two cl).length ≤ maxLen from by rw [HLW.out]; decide)
      go_wp2_with (first
        | (at_builtin; refine wpList_app rfl (.tmp 47) (.tmp 62) 27 rfl 5 infoU8 Try.underlying27 rfl (OwnF.alloc HX.out _) rfl (own_lit (w := wx) (l := two ty ++ two cl) (B := w.heap.size) HF2.out.size HV1.out HLM.out).rd rfl (fun _ _ => rfl) (by unfold maxLen; have := HXL.out; have := HLW.out; omega) (by have := HXL.out; have := HLW.out; omega) (by simp; have := HF2.out.size; omega) ?_
           intro v3 w3 hown3 hfr3 _
           have HO3 := Lib.hid (OwnB.more hown3 (two ty ++ two cl) rfl (fun j hj => rfl))
           have HT3 := Lib.hid (((FrT.refl 5 wx).alloc (.cells #[.int .u8 (ty / 256), .int .u8 (ty % 256), .int .u8 (cl / 256), .int .u8 (cl % 256)] 5)).own (OwnF.alloc HX.out _) hfr3)
           have HP3 := Lib.hid (HT3.out.blk HP2.out (by decide))
           have HY3 := Lib.hid (HY.out.frT HT3.out (by decide))
           have HF3 := Lib.hid (show Fr [] w w3 from (HF2.out.alloc _).trans hfr3 (fun x hx => .inr (OwnF.ge HX.out x hx)))
           clear hown3 hfr3
           obtain ⟨M, hM⟩ : ∃ M, X ++ (two ty ++ two cl) = M := ⟨_, rfl⟩
           rw [hM] at HO3 HR
           clear hM
           obtain ⟨va, vc, hve⟩ := HO3.out.rd.slice
           subst hve
           have c0 := blk_cell HP3.out 0 (v := .slice oa O.length oc) rfl
           have c1 := blk_cell HP3.out 1 (v := .slice sa A.length sc) rfl
           have z0 := blk_frozen HP3.out 0
           have z1 := blk_frozen HP3.out 1
           have HB5 := Lib.hid (blk_set2 HP3.out (.slice va M.length vc) (.slice ya Y.length yc))
           have hf5 : Fr [p] w3 ((w3.setCell ⟨p, 0, none⟩ (.slice va M.length vc)).setCell ⟨p, 1, none⟩ (.slice ya Y.length yc)) := ((Fr.refl [p] w3).setCell (p := ⟨p, 0, none⟩) (.inl (by simp)) _).setCell (p := ⟨p, 1, none⟩) (.inl (by simp)) _
           have HX5 := Lib.hid (show OwnB ((w3.setCell ⟨p, 0, none⟩ (.slice va M.length vc)).setCell ⟨p, 1, none⟩ (.slice ya Y.length yc)) w.heap.size (.slice va M.length vc) M from OwnF.keptW HO3.out hf5 HP3.out (by decide))
           have HY5 := Lib.hid (OwnF.keptW HY3.out hf5 HP3.out (by decide))
           have HF5 := Lib.hid ((HF3.out.mono (S' := [p]) (by simp)).trans hf5 (fun x hx => .inl hx))
           clear hf5
           go_wp2)
        | fail)
      go_ret
      exact ⟨.inr ⟨(M, Y), HR.out, rfl, va, vc, ya, yc, HB5.out, HX5.out, HY5.out⟩, HF5.out⟩

end Go.Proofs.Ytkdmkpdooiacaaa
