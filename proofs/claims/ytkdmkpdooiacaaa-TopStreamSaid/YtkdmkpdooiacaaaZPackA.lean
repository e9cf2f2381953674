/- wire.Pack: a name behind a message. -/
import Derived.Test.YtkdmkpdooiacaaaZbase4
import Derived.Test.YtkdmkpdooiacaaaZbase1
import Derived.Test.YtkdmkpdooiacaaaZHeadWX
namespace Go.Proofs.Ytkdmkpdooiacaaa
open Go.RowKit

/-- what Pack leaves -/
def PackGood (w : World) (o : List UInt8 × List Nat) (ls : List ByteArray) (e : Ending) (w' : World) : Prop :=
  (nmF ls ≠ 0 ∧ e = .returned (.tuple #[.slice none 0 0, .slice none 0 0, erVn (nmF ls)]) ∨
    nmF ls = 0 ∧ ∃ v sa sc, e = .returned (.tuple #[v, .slice sa (pack o ls).2.length sc, .nilIface]) ∧ OwnB w' w.heap.size v (pack o ls).1 ∧ OwnF w' w.heap.size 3 (.slice sa (pack o ls).2.length sc) (pack o ls).2.length (natV (pack o ls).2)) ∧ Fr [] w w'

theorem packG_drop (L : List UInt8) (st : List Nat) (ls : List ByteArray) (o : List UInt8 × List Nat) (k : Nat) (hk : k < ls.length) : packG L st (ls.drop k) o = match fndP L st (ls.drop k) with
    | some p => (o.1 ++ [byt (192 + p / 256), byt (p % 256)], o.2)
    | none => packG L st (ls.drop (k + 1)) (o.1 ++ lbl (ls.getD k .empty), if o.1.length ≤ 16383 then o.2 ++ [o.1.length] else o.2) := by
  have e : ls.getD k .empty = ls[k] := by rw [List.getD_eq_getElem?_getD, List.getElem?_eq_getElem hk]; rfl
  rw [e, List.drop_eq_getElem_cons hk]
  rfl

theorem or_192 {p : Nat} (h : p ≤ 16383) : bits .or .i64 192 ((p : Int) / 256) = 192 + (p : Int) / 256 := by
  have e1 : (192 : Int) = ((2 ^ 6 * 3 : Nat) : Int) := rfl
  have e2 : (p : Int) / 256 = ((p / 256 : Nat) : Int) := by omega
  have h1 : p / 256 < 2 ^ 6 := by omega
  have h2 : p / 256 < 2 ^ 62 := by omega
  rw [e2, e1, (bits_nat .i64 62 (by decide) wraps_i64 _ _ (by decide) h2).2, ← Nat.two_pow_add_eq_or_of_lt h1]
  omega

theorem natV_app (l : List Nat) (x : Nat) (j : Nat) (hj : j < l.length + 1) : app l.length (natV l) (fun _ => .int .i64 (x : Nat)) j = natV (l ++ [x]) j := by
  unfold app natV
  by_cases h : j < l.length
  · rw [if_pos h, List.getD_eq_getElem?_getD, List.getD_eq_getElem?_getD, List.getElem?_append_left h]
  · obtain rfl : j = l.length := by omega
    rw [if_neg h]
    simp [List.getD_eq_getElem?_getD]

set_option maxHeartbeats 8000000 in
set_option maxRecDepth 100000 in
theorem packA_any (w : World) (a : Option Addr) (c : Nat) (L : List UInt8) (hv : RdF w (.slice a L.length c) L.length (bytV L)) (hL : L.length ≤ 1099511627776) (sa : Option Addr) (sc : Nat) (st : List Nat)
    (hst : RdF w (.slice sa st.length sc) st.length (natV st)) (hsl : st.length ≤ 1099511627776) (na : Option Addr) (nc : Nat) (ls : List ByteArray) (hn : RdF w (.slice na ls.length nc) ls.length (strV ls)) (hss : ∀ j, j < ls.length → (ls.getD j .empty).size ≤ 140737488355328) :
    Calls Try.prog 24 #[.slice a L.length c, .slice sa st.length sc, .slice na ls.length nc] w (PackGood w (L, st) ls) := by
  have HC := Lib.hid (show Calls Try.prog 30 #[.slice na ls.length nc] w fun e w' => e = .returned (erVn (nmF ls)) ∧ w = w' from nameCheck_any w na ls.length nc (fun j => ls.getD j .empty) hn hss)
  by_cases hz : nmF ls = 0
  case neg =>
    have HZ := Lib.hid hz
    have HEN := Lib.hid (show nmF ls ≠ 0 → (erVn (nmF ls)) = .iface 52 (.int .i64 (nmF ls)) from fun h => by unfold erVn; rw [if_neg h])
    unfold PackGood
    generalize nmF ls = Z at *
    have HE := Lib.hid (HEN.out HZ.out)
    rw [HE.out] at HC
    clear hz HEN hv hst hn hss
    go_enter Try.func24, Try.ntmps24
    go_wp2_with fail
    with_reducible refine HC.out.mono ?_
    rintro e wx ⟨rfl, rfl⟩
    clear HC
    go_wp2
    refine bodyPost_ret (v := .tuple #[.slice none 0 0, .slice none 0 0, .iface 52 (.int .i64 Z)]) (by simp [results, Try.results24, go_sem]) rfl ?_
    exact ⟨.inl ⟨HZ.out, by rw [HE.out]⟩, Fr.refl _ _⟩
  obtain ⟨hnm, hnl⟩ := nmF_ok hz
  have hl2 := lsz_len ls hnm
  have hn127 : ls.length ≤ 127 := by omega
  have h63 : ∀ j, j < ls.length → (ls.getD j .empty).size ≤ 63 := fun j hj => by
    have e : ls.getD j .empty = ls[j] := by rw [List.getD_eq_getElem?_getD, List.getElem?_eq_getElem hj]; rfl
    rw [e]
    exact (hnm _ (List.getElem_mem hj)).2
  have H63 := Lib.hid h63
  have HE0 := Lib.hid (show erVn 0 = .nilIface from rfl)
  rw [hz] at HC
  have HZ := Lib.hid hz
  have HV := Lib.hid hv
  have HST := Lib.hid hst
  have HN := Lib.hid hn
  have HCL := Lib.hid (clone_bytes w (.slice a L.length c) L.length (fun j => ((L.getD j 0).toNat : Int)) hv (by omega))
  have HCI := Lib.hid (fun (wx : World) (hx : Fr [] w wx) => clone_ints wx (.slice sa st.length sc) st.length (fun j => ((st.getD j 0 : Nat) : Int)) (hst.fr hx (by simp)) (by omega))
  have HPD := Lib.hid (fun o k (hk : k < ls.length) => packG_drop L st ls o k hk)
  have HPN := Lib.hid (show ∀ o, packG L st (ls.drop ls.length) o = (o.1 ++ [0], o.2) from fun o => by rw [List.drop_length]; rfl)
  have HDL := Lib.hid (show ∀ k, (ls.drop k).length = ls.length - k from fun k => List.length_drop)
  have HFI := Lib.hid (fun (wx : World) (hx : Fr [] w wx) (k : Nat) (n2 : Option Addr) (c2 : Nat) (h2 : RdF wx (.slice n2 (ls.drop k).length c2) (ls.drop k).length (strV (ls.drop k))) =>
    wfind_any wx a c L (hv.fr hx (by simp)) (by omega) sa sc st (hst.fr hx (by simp)) (by omega) n2 c2 (ls.drop k) h2 (by rw [HDL.out]; omega))
  have HFB := Lib.hid (show ∀ k p, fndP L st (ls.drop k) = some p → p ≤ 16383 from fun k p h => (stands_iff (List.find?_some h)).1)
  have HG := Lib.hid (show ∀ k, k < ls.length → strV ls k = .string (ls.getD k .empty) from fun _ _ => rfl)
  have HSG := Lib.hid (show ∀ k j, strV (ls.drop k) j = .string (ls.getD (k + j) .empty) from fun k j => by
    unfold strV
    rw [List.getD_eq_getElem?_getD, List.getElem?_drop, ← List.getD_eq_getElem?_getD])
  have HWL := Lib.hid (show ∀ k, wireL (fun j => ls.getD (k + j) .empty) 1 = lbl (ls.getD k .empty) from fun k => rfl)
  have HP0 := Lib.hid (show pack (L, st) ls = packG L st (ls.drop 0) (L, st) from rfl)
  unfold PackGood
  generalize hpk : pack (L, st) ls = P at *
  clear hpk hz hv hst hn hss hnm hnl hl2 h63
  generalize hlen : L.length = len at *
  have HLEN := Lib.hid hlen
  generalize hsn : st.length = sn at *
  have HSN := Lib.hid hsn
  generalize hnn : ls.length = n at *
  have HNN := Lib.hid hnn
  clear hlen hsn hnn
  go_enter Try.func24, Try.ntmps24
  go_wp2_with fail
  with_reducible refine HC.out.mono ?_
  rintro e wx ⟨rfl, rfl⟩
  rw [HE0.out]
  go_wp2_with fail
  with_reducible refine HCL.out.mono ?_
  rintro e w1 ⟨v1, rfl, ho1, hf1⟩
  have HO1 := Lib.hid (show OwnB w1 w.heap.size v1 L from by unfold OwnB; rw [HLEN.out]; exact ho1)
  have HF1 := Lib.hid hf1
  clear ho1 hf1 HCL HC
  go_wp2_with fail
  with_reducible refine (HCI.out w1 HF1.out).mono ?_
  rintro e w2 ⟨v2, rfl, ho2, hf2⟩
  have HS2 := Lib.hid (show OwnF w2 w.heap.size 3 v2 st.length (natV st) from by rw [HSN.out]; exact ho2.mono HF1.out.size)
  have HO2 := Lib.hid (show OwnB w2 w.heap.size v1 L from OwnF.kept HO1.out hf2 (fun _ _ => by simp))
  have HF2 := Lib.hid (HF1.out.trans hf2 (by simp))
  clear ho2 hf2 HO1 HF1 HCI
  go_wp2_with fail
  go_loopw [10, 11, 25] (fun vo va vi wr => ∃ (k : Nat) (o : List UInt8 × List Nat), k ≤ n ∧ vi = .int .i64 k ∧ OwnB wr w.heap.size vo o.1 ∧ OwnF wr w.heap.size 3 va o.2.length (natV o.2) ∧ Hid (P = packG L st (ls.drop k) o) ∧ o.1.length ≤ len + 64 * k ∧ o.2.length ≤ sn + k ∧ Fr [] w wr) (fun _ _ vi _ => n - (intOf vi).toNat)
  case atStart => exact ⟨0, (L, st), by omega, rfl, HO2.out, HS2.out, HP0, by have := HLEN.out; simp only; omega, by have := HSN.out; simp only; omega, HF2.out⟩
  case round =>
    clear HO2 HS2 HF2 HP0
    obtain ⟨k, o, hk, rfl, ho, ha, HP, hol, hal, hf⟩ := hrel
    obtain ⟨O, A⟩ := o
    simp only at ho ha hol hal
    obtain ⟨oa, oc, rfl⟩ := ho.rd.slice
    obtain ⟨aa, ac, rfl⟩ := ha.rd.slice
    have HO := Lib.hid ho
    have HA := Lib.hid ha
    have HF := Lib.hid hf
    have HOL := Lib.hid hol
    have HAL := Lib.hid hal
    clear ho ha hf hol hal
    by_cases hlt : k < n
    · obtain ⟨b1, o1, c1, he1, hn1, hm1, hb1, hc1⟩ := HN.out.shape (by omega)
      simp only [Value.slice.injEq, true_and] at he1
      obtain ⟨rfl, rfl⟩ := he1
      have HHC := Lib.hid hc1
      have HB1 := Lib.hid hb1
      clear hc1 hb1
      unfold maxLen at hm1
      have k0 : (0 : Int) ≤ (k : Int) := by omega
      have k3 : (k : Int) < (n : Int) := by omega
      have k4 : (k : Int) ≤ (n : Int) := by omega
      have k5 : (n : Int) ≤ (nc : Int) := by omega
      have k6 : (k : Int) + 1 ≤ (nc : Int) := by omega
      have k7 : (0 : Int) ≤ (k : Int) + 1 := by omega
      have HP2 := Lib.hid (HP.out.trans (HPD.out (O, A) k (by have := HNN.out; omega)))
      have HSZ := Lib.hid HF.out.size
      have HK := Lib.hid hlt
      have hfi := HFI.out wr HF.out k (some ⟨b1, o1 + k, none⟩) (nc - k) (by
        rw [HDL.out]
        exact .inr ⟨_, _, rfl, by omega, by unfold maxLen; omega, fun j hj => by
          rw [addr_lit_add, HSG.out, Nat.add_assoc]
          exact HF.out.cell (HHC.out (k + j) (by omega)) (by simp)⟩)
      rw [HDL.out] at hfi
      have HFX := Lib.hid hfi
      have HFP := Lib.hid (HFB.out k)
      clear hfi hlt
      generalize hfn : fndP L st (ls.drop k) = X at *
      clear hfn
      have HFY := Lib.hid HFX.out
      clear HFX
      go_wp2_with fail
      with_reducible refine HFY.out.mono ?_
      rintro e w3 ⟨rfl, hf3⟩
      have HO3 := Lib.hid (show OwnB w3 w.heap.size (.slice oa O.length oc) O from OwnF.kept HO.out hf3 (fun _ _ => by simp))
      have HA3 := Lib.hid (OwnF.kept HA.out hf3 (fun _ _ => by simp))
      have HF3 := Lib.hid (HF.out.trans hf3 (by simp))
      clear hf3 HO HA HF HFY
      rcases X with _ | p
      case some =>
        have hp := HFP.out p rfl
        have HPP := Lib.hid (show P = (O ++ [byt (192 + p / 256), byt (p % 256)], A) from HP2.out)
        have hor := or_192 hp
        have HX := Lib.hid hp
        have p0 : (0 : Int) ≤ (p : Int) := by omega
        have p1 : (p : Int) ≤ 16383 := by omega
        have HB0 := Lib.hid (show Value.int .u8 (192 + (p : Int) / 256) = u8V (byt (192 + p / 256)) from by
          unfold u8V
          congr 1
          rw [byt_nat (by omega)]
          omega)
        have HB2 := Lib.hid (show Value.int .u8 ((p : Int) % 256) = u8V (byt (p % 256)) from by
          unfold u8V
          congr 1
          rw [byt_nat (by omega)]
          omega)
        clear HP2 HFP hp
        rw [show fndI (some p) = (p : Int) from rfl]
        go_wp2_with (at_builtin; refine wpList_app rfl (.tmp 36) (.tmp 43) 27 rfl 5 infoU8 Try.underlying27 rfl (OwnF.alloc HO3.out _) rfl (rd_two _ _ _ _ (fun j => u8V ([byt (192 + p / 256), byt (p % 256)].getD j 0)) rfl HB0.out.symm HB2.out.symm) rfl (fun _ _ => rfl) (by unfold maxLen; have := HOL.out; omega) (by have := HOL.out; omega) (by simp; have := HF3.out.size; omega) ?_; intro v4 w4 hown4 hfr4 _)
        have HO4 := Lib.hid (OwnB.more hown4 [byt (192 + p / 256), byt (p % 256)] rfl (fun j hj => rfl))
        have HT4 := Lib.hid (((FrT.refl 5 w3).alloc _).own (OwnF.alloc HO3.out _) hfr4)
        have HA4 := Lib.hid (HA3.out.frT HT4.out (by decide))
        have HF4 := Lib.hid ((HF3.out.alloc _).trans hfr4 (fun x hx => .inr (OwnF.ge HO3.out x hx)))
        clear hown4 hfr4
        go_wp2
        refine bodyPost_ret (v := .tuple #[v4, .slice aa A.length ac, .nilIface]) (by simp [results, Try.results24, go_sem]) rfl ?_
        obtain rfl := HPP.out
        exact ⟨.inr ⟨HZ.out, v4, aa, ac, rfl, HO4.out, HA4.out⟩, HF4.out⟩
      case none =>
        have HPP := Lib.hid (show P = packG L st (ls.drop (k + 1)) (O ++ lbl (ls.getD k .empty), if O.length ≤ 16383 then A ++ [O.length] else A) from HP2.out)
        have HLB := Lib.hid (show (O ++ lbl (ls.getD k .empty)).length ≤ O.length + 64 from by
          rw [List.length_append]
          have h1 := H63.out k HK.out
          have h2 : (lbl (ls.getD k .empty)).length = (ls.getD k .empty).size + 1 := by unfold lbl; rw [List.length_cons]; rfl
          omega)
        clear HP2 HFP
        rw [show fndI none = (-1 : Int) from rfl]
        have HSE := Lib.hid (fun (wx : World) (hx : Fr [] w wx) (hox : OwnB wx w.heap.size (.slice oa O.length oc) O) => sent_fr wx w.heap.size (.slice oa O.length oc) O (some ⟨b1, o1 + k, none⟩) 1 (nc - k) (fun j => ls.getD (k + j) .empty) hox hx.size
          (.inr ⟨⟨b1, o1 + k, none⟩, nc - k, rfl, by omega, by unfold maxLen; omega, fun j hj => by
            obtain rfl : j = 0 := by omega
            exact hx.cell (HHC.out k HK.out) (by simp)⟩) (fun b o e _ => by
              simp only [Option.some.injEq, Addr.mk.injEq] at e
              have := HB1.out
              omega) (fun j hj => Nat.le_trans (H63.out (k + j) (by have := HK.out; omega)) (by decide)) (by have := HOL.out; omega))
        rw [HWL.out] at HSE
        by_cases h16 : O.length ≤ 16383
        · have k8 : (O.length : Int) ≤ 16383 := by omega
          have HPQ := Lib.hid (HPP.out.trans (by rw [if_pos h16]))
          clear HPP h16
          go_wp2_with (first
            | (at_builtin; refine wpList_app rfl (.tmp 49) (.tmp 52) 23 rfl 3 infoInt Try.underlying23 rfl (HA3.out.alloc _) rfl (rd_one _ _ _ rfl) rfl (fun _ _ => rfl) (by unfold maxLen; have := HAL.out; omega) (by have := HAL.out; omega) (by simp; have := HF3.out.size; omega) ?_; intro v2 w4 hown2 hfr2 _
               have HA4 := Lib.hid (hown2.congr (fun j hj => natV_app A O.length j hj))
               have HT4 := Lib.hid ((FrT.alloc (FrT.refl 3 _) _).own (HA3.out.alloc _) hfr2)
               have HF4 := Lib.hid ((HF3.out.alloc _).trans hfr2 (fun x hx => .inr (OwnF.ge HA3.out x hx)))
               clear hown2 hfr2)
            | fail)
          have HO4 := Lib.hid (show OwnB w4 w.heap.size (.slice oa O.length oc) O from OwnF.frT (T := 5) (B := w.heap.size) (n := O.length) (f := fun j => u8V (O.getD j 0)) HO3.out HT4.out (by decide))
          with_reducible refine (HSE.out w4 HF4.out HO4.out).mono ?_
          rintro e w5 ⟨v5, rfl, ho5, hf5, ht5⟩
          have HO5 := Lib.hid ho5
          have HA5 := Lib.hid (HA4.out.frT ht5 (by decide))
          have HF5 := Lib.hid (show Fr [] w w5 from Fr.of_below ((HF4.out.below _ (Nat.le_refl _) (by simp)).trans hf5) _)
          clear ho5 hf5 ht5
          go_wp2
          go_roundw
          case rel => exact ⟨k + 1, (O ++ lbl (ls.getD k .empty), A ++ [O.length]), by have := HK.out; omega, by go_num, HO5.out, by rw [List.length_append]; exact HA5.out, HPQ, by have := HLB.out; have := HOL.out; simp only at *; omega, by have := HAL.out; simp; omega, HF5.out⟩
          case measure => (have := HK.out; simp [intOf]; omega)
        · have k8 : ¬ (O.length : Int) ≤ 16383 := by omega
          have HPQ := Lib.hid (HPP.out.trans (by rw [if_neg h16]))
          clear HPP h16
          go_wp2_with fail
          with_reducible refine (HSE.out w3 HF3.out HO3.out).mono ?_
          rintro e w5 ⟨v5, rfl, ho5, hf5, ht5⟩
          have HO5 := Lib.hid ho5
          have HA5 := Lib.hid (HA3.out.frT ht5 (by decide))
          have HF5 := Lib.hid (show Fr [] w w5 from Fr.of_below ((HF3.out.below _ (Nat.le_refl _) (by simp)).trans hf5) _)
          clear ho5 hf5 ht5
          go_wp2
          go_roundw
          case rel => exact ⟨k + 1, (O ++ lbl (ls.getD k .empty), A), by have := HK.out; omega, by go_num, HO5.out, HA5.out, HPQ, by have := HLB.out; have := HOL.out; simp only at *; omega, by have := HAL.out; simp only; omega, HF5.out⟩
          case measure => (have := HK.out; simp [intOf]; omega)
    · obtain rfl : n = k := by omega
      have HPP := Lib.hid (show P = (O ++ [0], A) from HP.out.trans (HPN.out (O, A)))
      clear HP hlt
      go_wp2_with (at_builtin; refine wpList_app rfl (.tmp 62) (.tmp 63) 27 rfl 5 infoU8 Try.underlying27 rfl (OwnF.alloc HO.out _) rfl (rd_one _ _ _ rfl) rfl (fun _ _ => rfl) (by unfold maxLen; have := HOL.out; omega) (by have := HOL.out; omega) (by simp; have := HF.out.size; omega) ?_; intro v4 w4 hown4 hfr4 _)
      have HO4 := Lib.hid (OwnB.more hown4 [0] rfl (fun j hj => by
        obtain rfl : j = 0 := by omega
        rfl))
      have HT4 := Lib.hid (((FrT.refl 5 wr).alloc _).own (OwnF.alloc HO.out _) hfr4)
      have HA4 := Lib.hid (HA.out.frT HT4.out (by decide))
      have HF4 := Lib.hid ((HF.out.alloc _).trans hfr4 (fun x hx => .inr (OwnF.ge HO.out x hx)))
      clear hown4 hfr4
      go_wp2
      refine bodyPost_ret (v := .tuple #[v4, .slice aa A.length ac, .nilIface]) (by simp [results, Try.results24, go_sem]) rfl ?_
      obtain rfl := HPP.out
      exact ⟨.inr ⟨HZ.out, v4, aa, ac, rfl, HO4.out, HA4.out⟩, HF4.out⟩

end Go.Proofs.Ytkdmkpdooiacaaa
