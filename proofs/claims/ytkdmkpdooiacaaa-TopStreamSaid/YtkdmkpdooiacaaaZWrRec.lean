/- rr.Write: a record behind a message. -/
import Derived.Test.YtkdmkpdooiacaaaZPackA
namespace Go.Proofs.Ytkdmkpdooiacaaa
open Go.RowKit

/-- what is left behind a message: its bytes and where names begin; or what is wrong -/
def WrGood (w : World) (r : Except Int (List UInt8 × List Nat)) (e : Ending) (w' : World) : Prop :=
  ((∃ z, r = .error z ∧ z ≠ 0 ∧ e = .returned (.tuple #[.slice none 0 0, .slice none 0 0, .iface 52 (.int .i64 z)])) ∨
    ∃ o v sa sc, r = .ok o ∧ e = .returned (.tuple #[v, .slice sa o.2.length sc, .nilIface]) ∧ OwnB w' w.heap.size v o.1 ∧ OwnF w' w.heap.size 3 (.slice sa o.2.length sc) o.2.length (natV o.2)) ∧ Fr [] w w'

/-- Pack's answer -/
def packR (o : List UInt8 × List Nat) (ls : List ByteArray) : Except Int (List UInt8 × List Nat) := if nmF ls ≠ 0 then .error (nmF ls) else .ok (pack o ls)

theorem packB_any (w : World) (a : Option Addr) (c : Nat) (L : List UInt8) (hv : RdF w (.slice a L.length c) L.length (bytV L)) (hL : L.length ≤ 1099511627776) (sa : Option Addr) (sc : Nat) (st : List Nat)
    (hst : RdF w (.slice sa st.length sc) st.length (natV st)) (hsl : st.length ≤ 1099511627776) (na : Option Addr) (nc : Nat) (ls : List ByteArray) (hn : RdF w (.slice na ls.length nc) ls.length (strV ls)) (hss : ∀ j, j < ls.length → (ls.getD j .empty).size ≤ 140737488355328) :
    Calls Try.prog 24 #[.slice a L.length c, .slice sa st.length sc, .slice na ls.length nc] w (WrGood w (packR (L, st) ls)) :=
  (packA_any w a c L hv hL sa sc st hst hsl na nc ls hn hss).mono fun e w' h => by
    obtain ⟨h, hf⟩ := h
    refine ⟨?_, hf⟩
    unfold packR
    rcases h with ⟨hz, rfl⟩ | ⟨hz, v, s, t, rfl, h1, h2⟩
    · rw [if_pos hz]
      exact .inl ⟨_, rfl, hz, by unfold erVn; rw [if_neg hz]⟩
    · rw [if_neg (by simpa using hz)]
      exact .inr ⟨_, v, s, t, rfl, rfl, h1, h2⟩

theorem packG_len (L : List UInt8) (st : List Nat) (ls : List ByteArray) (o : List UInt8 × List Nat) : (packG L st ls o).1.length ≤ o.1.length + lsz ls + 2 := by
  induction ls generalizing o with
  | nil => simp only [packG, lsz, List.length_append, List.length_cons, List.length_nil]; omega
  | cons l r ih =>
    simp only [packG]
    match fndP L st (l :: r) with
    | some p => simp only [lsz, List.length_append, List.length_cons, List.length_nil]; omega
    | none =>
      have := ih (o.1 ++ lbl l, if o.1.length ≤ 16383 then o.2 ++ [o.1.length] else o.2)
      have h2 : (lbl l).length = l.size + 1 := by unfold lbl; rw [List.length_cons]; rfl
      simp only [List.length_append, h2] at this
      simp only [lsz]
      omega

theorem packR_len {o x : List UInt8 × List Nat} {ls : List ByteArray} (h : packR o ls = .ok x) : x.1.length ≤ o.1.length + 300 := by
  unfold packR at h
  split at h
  · cases h
  · rename_i hz
    cases h
    have h1 := packG_len o.1 o.2 ls o
    have h2 := (nmF_ok (Decidable.not_not.1 hz)).2
    unfold pack
    omega

theorem own_lit {w : World} {vs : Array Value} {l : List UInt8} {B : Nat} (hB : B ≤ w.heap.size) (h : vs.toList = l.map u8V) (hs : l.length ≤ maxLen) : OwnB (w.alloc (.cells vs 5)) B (.slice (some ⟨w.heap.size, 0, none⟩) l.length l.length) l :=
  .inr ⟨w.heap.size, l.length, rfl, hB, row_lit w vs 5 l.length (fun j => u8V (l.getD j 0)) (by rw [← Array.length_toList, h, List.length_map]) hs (fun j hj => by
    rw [← Array.getElem?_toList, h, List.getElem?_map, List.getElem?_eq_getElem hj, List.getD_eq_getElem?_getD, List.getElem?_eq_getElem hj]
    rfl)⟩

theorem two_val {x : Int} (h0 : 0 ≤ x) (h1 : x ≤ 65535) : [Value.int .u8 (x / 256), .int .u8 (x % 256)] = (two x).map u8V := by
  unfold two
  rw [List.map_cons, List.map_cons, List.map_nil, u8_div h0 h1, byt_lo h0]
  rfl

theorem four_val {x : Int} (h0 : 0 ≤ x) (h1 : x ≤ 4294967295) : [Value.int .u8 (x / 16777216), .int .u8 (x / 65536 % 256), .int .u8 (x / 256 % 256), .int .u8 (x % 256)] = (two (x / 65536) ++ two (x % 65536)).map u8V := by
  obtain ⟨h2, h3⟩ := wordB_div h0 h1
  rw [List.map_append, ← two_val h2.1 h2.2, ← two_val h3.1 h3.2]
  have e1 : x / 65536 / 256 = x / 16777216 := by omega
  have e2 : x % 65536 / 256 = x / 256 % 256 := by omega
  have e3 : x % 65536 % 256 = x % 256 := by omega
  rw [e1, e2, e3]
  rfl

set_option maxHeartbeats 8000000 in
set_option maxRecDepth 100000 in
theorem wrR_any (w : World) (a : Option Addr) (c : Nat) (L : List UInt8) (hv : RdF w (.slice a L.length c) L.length (bytV L)) (hL : L.length ≤ 549755813888) (sa : Option Addr) (sc : Nat) (st : List Nat)
    (hst : RdF w (.slice sa st.length sc) st.length (natV st)) (hsl : st.length ≤ 1099511627776) (r : Rc) (na : Option Addr) (nc : Nat) (da : Option Addr) (dc : Nat) (hn : RdF w (.slice na r.nm.length nc) r.nm.length (strV r.nm)) (hss : ∀ j, j < r.nm.length → (r.nm.getD j .empty).size ≤ 140737488355328)
    (hd : RdF w (.slice da r.dt.length dc) r.dt.length (bytV r.dt)) (hdl : r.dt.length ≤ 140737488355328) (hty : -9223372036854775808 ≤ r.ty ∧ r.ty ≤ 9223372036854775807) (hcl : -9223372036854775808 ≤ r.cl ∧ r.cl ≤ 9223372036854775807) (htt : -9223372036854775808 ≤ r.tt ∧ r.tt ≤ 9223372036854775807) :
    Calls Try.prog 25 #[.slice a L.length c, .slice sa st.length sc, .agg #[.slice na r.nm.length nc, .int .i64 r.ty, .int .i64 r.cl, .int .i64 r.tt, .slice da r.dt.length dc]] w (WrGood w (wrR (L, st) r)) := by
  have HPK := Lib.hid (fun (wx : World) (hx : Fr [] w wx) => packB_any wx a c L (hv.fr hx (by simp)) (by omega) sa sc st (hst.fr hx (by simp)) hsl na nc r.nm (hn.fr hx (by simp)) hss)
  have HD := Lib.hid hd
  have HWR := Lib.hid (show wrR (L, st) r = match packR (L, st) r.nm with
    | .error e => .error e
    | .ok o => if ¬ (wordB r.ty ∧ wordB r.cl ∧ 0 ≤ r.tt ∧ r.tt ≤ 4294967295) then .error 6
      else if 65535 < r.dt.length then .error 7
      else .ok (o.1 ++ (two r.ty ++ (two r.cl ++ (two (r.tt / 65536) ++ (two (r.tt % 65536) ++ (two r.dt.length ++ r.dt))))), o.2) from by
    unfold wrR packR
    by_cases h : nmF r.nm ≠ 0
    · rw [if_pos h, if_pos h]
    · rw [if_neg h, if_neg h])
  have HPL := Lib.hid (show ∀ o, packR (L, st) r.nm = .ok o → o.1.length ≤ L.length + 300 from fun o h => packR_len h)
  have HF0 := Lib.hid (show Fr [] w (w.alloc (.cells #[.slice na r.nm.length nc, .int .i64 r.ty, .int .i64 r.cl, .int .i64 r.tt, .slice da r.dt.length dc] 63)) from (Fr.refl [] w).alloc _)
  have HB0 := Lib.hid (heap_alloc_new w (.cells #[.slice na r.nm.length nc, .int .i64 r.ty, .int .i64 r.cl, .int .i64 r.tt, .slice da r.dt.length dc] 63))
  obtain ⟨nm, ty, cl, tt, dt⟩ := r
  simp only at *
  generalize packR (L, st) nm = PK at *
  generalize wrR (L, st) ⟨nm, ty, cl, tt, dt⟩ = R at *
  generalize hln : nm.length = ln at *
  generalize hld : dt.length = ld at *
  have HLD := Lib.hid hld
  clear hv hst hn hss hd hln hld
  go_enter Try.func25, Try.ntmps25
  go_wp2_with fail
  generalize w.alloc (.cells #[.slice na ln nc, .int .i64 ty, .int .i64 cl, .int .i64 tt, .slice da ld dc] 63) = w1 at *
  with_reducible refine (HPK.out w1 HF0.out).mono ?_
  rintro e w2 ⟨h2, hf2⟩
  have HB2 := Lib.hid (hf2.blk HB0.out (by simp))
  have HF2 := Lib.hid (HF0.out.trans hf2 (by simp))
  have HSZ := Lib.hid HF0.out.size
  clear hf2 HB0 HF0 HPK
  rcases h2 with ⟨z, rfl, hz0, rfl⟩ | ⟨o, v, s, t, rfl, rfl, ho, ha⟩
  · have HZ := Lib.hid hz0
    have HR := Lib.hid (show R = .error z from HWR.out)
    clear hz0 HWR
    go_wp2
    refine bodyPost_ret (v := .tuple #[.slice none 0 0, .slice none 0 0, .iface 52 (.int .i64 z)]) (by simp [results, Try.results25, go_sem]) rfl ?_
    exact ⟨.inl ⟨z, HR.out, HZ.out, rfl⟩, HF2.out⟩
  obtain ⟨O, A⟩ := o
  simp only at ho ha
  have HOL := Lib.hid (HPL.out _ rfl)
  simp only at HOL
  obtain ⟨oa, oc, rfl⟩ := ho.rd.slice
  have HO := Lib.hid (show OwnB w2 w.heap.size (.slice oa O.length oc) O from OwnF.mono ho HSZ.out)
  have HA := Lib.hid (OwnF.mono ha HSZ.out)
  have hwr := HWR.out
  simp only [] at hwr
  have q1 := blk_cell HB2.out 1 (v := .int .i64 ty) rfl
  have q2 := blk_cell HB2.out 2 (v := .int .i64 cl) rfl
  have q3 := blk_cell HB2.out 3 (v := .int .i64 tt) rfl
  have q4 := blk_cell HB2.out 4 (v := .slice da ld dc) rfl
  clear ho ha HPL HWR
  by_cases hok : 0 ≤ ty ∧ ty ≤ 65535 ∧ 0 ≤ cl ∧ cl ≤ 65535 ∧ 0 ≤ tt ∧ tt ≤ 4294967295
  case neg =>
    rw [if_pos (fun h => hok ⟨h.1.1, h.1.2, h.2.1.1, h.2.1.2, h.2.2.1, h.2.2.2⟩)] at hwr
    have HR := Lib.hid hwr
    have HNO := Lib.hid hok
    clear hok hwr
    by_cases k1 : 0 ≤ ty
    case neg =>
      have d1 : decide (ty < 0) = true := by simp; omega
      clear k1
      go_wp2
      refine bodyPost_ret (v := .tuple #[.slice none 0 0, .slice none 0 0, .iface 52 (.int .i64 6)]) (by simp [results, Try.results25, go_sem]) rfl ?_
      exact ⟨.inl ⟨6, HR.out, by decide, rfl⟩, HF2.out⟩
    have d1 : decide (ty < 0) = false := by simp; omega
    by_cases k2 : ty ≤ 65535
    case neg =>
      have d2 : decide (65535 < ty) = true := by simp; omega
      clear k2
      go_wp2
      refine bodyPost_ret (v := .tuple #[.slice none 0 0, .slice none 0 0, .iface 52 (.int .i64 6)]) (by simp [results, Try.results25, go_sem]) rfl ?_
      exact ⟨.inl ⟨6, HR.out, by decide, rfl⟩, HF2.out⟩
    have d2 : decide (65535 < ty) = false := by simp; omega
    by_cases k3 : 0 ≤ cl
    case neg =>
      have d3 : decide (cl < 0) = true := by simp; omega
      clear k3
      go_wp2
      refine bodyPost_ret (v := .tuple #[.slice none 0 0, .slice none 0 0, .iface 52 (.int .i64 6)]) (by simp [results, Try.results25, go_sem]) rfl ?_
      exact ⟨.inl ⟨6, HR.out, by decide, rfl⟩, HF2.out⟩
    have d3 : decide (cl < 0) = false := by simp; omega
    by_cases k4 : cl ≤ 65535
    case neg =>
      have d4 : decide (65535 < cl) = true := by simp; omega
      clear k4
      go_wp2
      refine bodyPost_ret (v := .tuple #[.slice none 0 0, .slice none 0 0, .iface 52 (.int .i64 6)]) (by simp [results, Try.results25, go_sem]) rfl ?_
      exact ⟨.inl ⟨6, HR.out, by decide, rfl⟩, HF2.out⟩
    have d4 : decide (65535 < cl) = false := by simp; omega
    by_cases k5 : 0 ≤ tt
    case neg =>
      have d5 : decide (tt < 0) = true := by simp; omega
      clear k5
      go_wp2
      refine bodyPost_ret (v := .tuple #[.slice none 0 0, .slice none 0 0, .iface 52 (.int .i64 6)]) (by simp [results, Try.results25, go_sem]) rfl ?_
      exact ⟨.inl ⟨6, HR.out, by decide, rfl⟩, HF2.out⟩
    have d5 : decide (tt < 0) = false := by simp; omega
    have d6 : decide (0 < tt / 4294967296) = true := by
      have := HNO.out
      simp
      omega
    go_wp2
    refine bodyPost_ret (v := .tuple #[.slice none 0 0, .slice none 0 0, .iface 52 (.int .i64 6)]) (by simp [results, Try.results25, go_sem]) rfl ?_
    exact ⟨.inl ⟨6, HR.out, by decide, rfl⟩, HF2.out⟩
  rw [if_neg (fun h => h ⟨⟨hok.1, hok.2.1⟩, ⟨hok.2.2.1, hok.2.2.2.1⟩, hok.2.2.2.2.1, hok.2.2.2.2.2⟩)] at hwr
  obtain ⟨k1, k2, k3, k4, k5, k6⟩ := hok
  have d1 : decide (ty < 0) = false := by simp; omega
  have d2 : decide (65535 < ty) = false := by simp; omega
  have d3 : decide (cl < 0) = false := by simp; omega
  have d4 : decide (65535 < cl) = false := by simp; omega
  have d5 : decide (tt < 0) = false := by simp; omega
  have d6 : decide (0 < tt / 4294967296) = false := by simp; omega
  by_cases hd65 : 65535 < ld
  · rw [if_pos hd65] at hwr
    have HR := Lib.hid hwr
    have k7 : 65535 < (ld : Int) := by omega
    clear hwr hd65
    go_wp2
    refine bodyPost_ret (v := .tuple #[.slice none 0 0, .slice none 0 0, .iface 52 (.int .i64 7)]) (by simp [results, Try.results25, go_sem]) rfl ?_
    exact ⟨.inl ⟨7, HR.out, by decide, rfl⟩, HF2.out⟩
  rw [if_neg hd65] at hwr
  have HR := Lib.hid hwr
  have k7 : ¬ 65535 < (ld : Int) := by omega
  have HV1 := Lib.hid (show [Value.int .u8 (ty / 256), .int .u8 (ty % 256), .int .u8 (cl / 256), .int .u8 (cl % 256)] = (two ty ++ two cl).map u8V from by
    rw [List.map_append, ← two_val k1 k2, ← two_val k3 k4]; rfl)
  have HV2 := Lib.hid (show [Value.int .u8 (tt / 16777216), .int .u8 (tt / 65536 % 256), .int .u8 (tt / 256 % 256), .int .u8 (tt % 256), .int .u8 ((ld : Int) / 256), .int .u8 ((ld : Int) % 256)] = ((two (tt / 65536) ++ two (tt % 65536)) ++ two (ld : Int)).map u8V from by
    rw [List.map_append, ← four_val k5 k6, ← two_val (x := (ld : Int)) (by omega) (by omega)]; rfl)
  clear hwr
  have HLW := Lib.hid (show (two ty ++ two cl).length = 4 ∧ ((two (tt / 65536) ++ two (tt % 65536)) ++ two (ld : Int)).length = 6 from ⟨rfl, rfl⟩)
  have HLM := Lib.hid (show (two ty ++ two cl).length ≤ maxLen ∧ ((two (tt / 65536) ++ two (tt % 65536)) ++ two (ld : Int)).length ≤ maxLen from ⟨by rw [HLW.out.1]; decide, by rw [HLW.out.2]; decide⟩)
  have HRX := Lib.hid (show R = .ok (((O ++ (two ty ++ two cl)) ++ ((two (tt / 65536) ++ two (tt % 65536)) ++ two (ld : Int))) ++ dt, A) from by rw [HR.out]; simp only [List.append_assoc])
  clear HR
  go_wp2_with (first
    | (at_builtin; refine wpList_app rfl (.tmp 61) (.tmp 76) 27 rfl 5 infoU8 Try.underlying27 rfl (OwnF.alloc HO.out _) rfl (own_lit (w := w2) (l := two ty ++ two cl) (B := w.heap.size) HF2.out.size HV1.out HLM.out.1).rd rfl (fun _ _ => rfl) (by unfold maxLen; have := HOL.out; have := HLW.out; omega) (by have := HOL.out; have := HLW.out; omega) (by simp; have := HF2.out.size; omega) ?_
       intro v3 w3 hown3 hfr3 _
       have HO3 := Lib.hid (OwnB.more hown3 (two ty ++ two cl) rfl (fun j hj => rfl))
       have HT3 := Lib.hid (((FrT.refl 5 w2).alloc (.cells #[.int .u8 (ty / 256), .int .u8 (ty % 256), .int .u8 (cl / 256), .int .u8 (cl % 256)] 5)).own (OwnF.alloc HO.out _) hfr3)
       have HB3 := Lib.hid (HT3.out.blk HB2.out (by decide))
       have HA3 := Lib.hid (HA.out.frT HT3.out (by decide))
       have HF3 := Lib.hid (show Fr [] w w3 from (HF2.out.alloc _).trans hfr3 (fun x hx => .inr (OwnF.ge HO.out x hx)))
       have q3 := blk_cell HB3.out 3 (v := .int .i64 tt) rfl
       have q4 := blk_cell HB3.out 4 (v := .slice da ld dc) rfl
       clear hown3 hfr3
       generalize hM3 : O ++ (two ty ++ two cl) = M3 at *
       have HM3 := Lib.hid (show M3.length = O.length + 4 from by rw [← hM3, List.length_append, HLW.out.1])
       clear hM3
       go_wp2_with (first
         | (at_builtin; refine wpList_app rfl (.tmp 78) (.tmp 99) 27 rfl 5 infoU8 Try.underlying27 rfl (OwnF.alloc HO3.out _) rfl (own_lit (w := w3) (l := (two (tt / 65536) ++ two (tt % 65536)) ++ two (ld : Int)) (B := w.heap.size) HF3.out.size HV2.out HLM.out.2).rd rfl (fun _ _ => rfl) (by unfold maxLen; have := HOL.out; have := HM3.out; have := HLW.out; omega) (by have := HOL.out; have := HM3.out; have := HLW.out; omega) (by simp; have := HF3.out.size; omega) ?_
            intro v4 w4 hown4 hfr4 _
            have HO4 := Lib.hid (OwnB.more hown4 ((two (tt / 65536) ++ two (tt % 65536)) ++ two (ld : Int)) rfl (fun j hj => rfl))
            have HT4 := Lib.hid (((FrT.refl 5 w3).alloc (.cells #[.int .u8 (tt / 16777216), .int .u8 (tt / 65536 % 256), .int .u8 (tt / 256 % 256), .int .u8 (tt % 256), .int .u8 ((ld : Int) / 256), .int .u8 ((ld : Int) % 256)] 5)).own (OwnF.alloc HO3.out _) hfr4)
            have HB4 := Lib.hid (HT4.out.blk HB3.out (by decide))
            have HA4 := Lib.hid (HA3.out.frT HT4.out (by decide))
            have HF4 := Lib.hid (show Fr [] w w4 from (HF3.out.alloc _).trans hfr4 (fun x hx => .inr (OwnF.ge HO3.out x hx)))
            have g4 := blk_cell HB4.out 4 (v := .slice da ld dc) rfl
            clear hown4 hfr4
            generalize hM4 : M3 ++ ((two (tt / 65536) ++ two (tt % 65536)) ++ two (ld : Int)) = M4 at *
            have HM4 := Lib.hid (show M4.length = M3.length + 6 from by rw [← hM4, List.length_append, HLW.out.2])
            clear hM4
            go_wp2_with (first
              | (at_builtin; refine wpList_app rfl (.tmp 101) (.tmp 103) 27 rfl 5 infoU8 Try.underlying27 rfl HO4.out rfl (HD.out.fr HF4.out (by simp)) rfl (fun _ _ => rfl) (by unfold maxLen; have := HOL.out; have := HM3.out; have := HM4.out; omega) (by have := HOL.out; have := HM3.out; have := HM4.out; omega) (by have := HF4.out.size; omega) ?_
                 intro v5 w5 hown5 hfr5 _
                 have HO5 := Lib.hid (OwnB.more hown5 dt HLD.out (fun j hj => rfl))
                 have HT5 := Lib.hid ((FrT.refl 5 w4).own HO4.out hfr5)
                 have HA5 := Lib.hid (HA4.out.frT HT5.out (by decide))
                 have HF5 := Lib.hid (show Fr [] w w5 from HF4.out.trans hfr5 (fun x hx => .inr (OwnF.ge HO4.out x hx)))
                 clear hown5 hfr5)
              | fail))
         | fail))
    | fail)
  refine bodyPost_ret (v := .tuple #[v5, .slice s A.length t, .nilIface]) (by simp [results, Try.results25, go_sem]) rfl ?_
  exact ⟨.inr ⟨_, v5, s, t, HRX.out, rfl, HO5.out, HA5.out⟩, HF5.out⟩

end Go.Proofs.Ytkdmkpdooiacaaa
