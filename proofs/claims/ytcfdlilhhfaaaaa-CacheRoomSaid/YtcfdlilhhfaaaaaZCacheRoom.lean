/- CacheRoom: the walk. -/
import Derived.Test.YtcfdlilhhfaaaaaZCached
import Derived.Test.YtcfdlilhhfaaaaaZbase5
import Derived.Test.YtcfdlilhhfaaaaaZbase1
namespace Go.Proofs.Ytcfdlilhhfaaaaa
open Go.RowKit

theorem six_new (w : World) (x y z u s t : Obj) : ((((((w.alloc x).alloc y).alloc z).alloc u).alloc s).alloc t).heap[w.heap.size]? = some x ∧ ((((((w.alloc x).alloc y).alloc z).alloc u).alloc s).alloc t).heap[w.heap.size + 1]? = some y ∧
    ((((((w.alloc x).alloc y).alloc z).alloc u).alloc s).alloc t).heap[w.heap.size + 1 + 1 + 1 + 1]? = some s ∧ ((((((w.alloc x).alloc y).alloc z).alloc u).alloc s).alloc t).heap[w.heap.size + 1 + 1 + 1 + 1 + 1]? = some t ∧
    Fr [] w ((((((w.alloc x).alloc y).alloc z).alloc u).alloc s).alloc t) ∧ ((((((w.alloc x).alloc y).alloc z).alloc u).alloc s).alloc t).heap.size = w.heap.size + 1 + 1 + 1 + 1 + 1 + 1 := by
  obtain ⟨h1, h2, h3, h4, h5, h6⟩ := four_new w x y z u
  have hf := ((Fr.refl [] ((((w.alloc x).alloc y).alloc z).alloc u)).alloc s).alloc t
  refine ⟨hf.blk h1 (by simp), hf.blk h2 (by simp), ?_, ?_, h5.trans hf (by simp), by simp⟩
  · have := ((Fr.refl [] (((((w.alloc x).alloc y).alloc z).alloc u).alloc s)).alloc t).blk (heap_alloc_new ((((w.alloc x).alloc y).alloc z).alloc u) s) (by simp)
    rw [h6] at this
    exact this
  · have := heap_alloc_new (((((w.alloc x).alloc y).alloc z).alloc u).alloc s) t
    have e : (((((w.alloc x).alloc y).alloc z).alloc u).alloc s).heap.size = w.heap.size + 1 + 1 + 1 + 1 + 1 := by simp
    rw [e] at this
    exact this

theorem NmAt.one {B : HB} {w : World} {g : Nat} {s : ByteArray} (hg : w.heap[g]? = some (.cells #[.string s] 9 (0, 0))) (hS : g ∉ B.s) (hs : s.size ≤ 140737488355328) : NmAt B w (some ⟨g, 0, none⟩) 1 1 (fun _ => s) :=
  ⟨.inr ⟨_, 1, rfl, Nat.le_refl _, by decide, fun j hj => by
    obtain rfl : j = 0 := by omega
    rw [addr_lit_add]
    exact blk_cell hg 0 rfl⟩, cold_row hg (by decide) _ hS _ _, fun j _ => hs, by decide⟩

theorem Ca.apart {B : HB} {w : World} {p q : Nat} {n : Int} {v : Value} {l : List En} {cs : Array Value} {T : TypeId} (h : Ca B w p n v l) (hq : w.heap[q]? = some (.cells cs T (0, 0))) (h1 : 67 ≠ T) (h2 : 81 ≠ T) : q ∉ p :: v.ownBlock.toList := fun hm => by
  rcases List.mem_cons.1 hm with rfl | hm
  · have e := h.blk
    rw [hq] at e
    simp only [Option.some.injEq, Obj.cells.injEq] at e
    exact h1 e.2.1.symm
  · obtain ⟨F, hr⟩ := h.row
    exact hr.ho.apart hq h2 hm

theorem OwnF.keptCa {B : HB} {w w' : World} {p : Nat} {n : Int} {v va : Value} {l : List En} {B0 k : Nat} {f : Nat → Value} (ho : OwnF w B0 9 va k f) (h : Ca B w p n v l) (hf : Fr (p :: v.ownBlock.toList) w w') : OwnF w' B0 9 va k f :=
  ho.kept hf (fun g hg => by
    obtain ⟨cs, e⟩ := ho.types g (by simp [hg])
    exact h.apart e (by decide) (by decide))

theorem app_strs {k : Nat} {s : Nat → ByteArray} (j : Nat) (hj : j < k + 1) : app k (fun j => Value.string (s j)) (fun _ => .string (s k)) j = .string (s j) := by
  unfold app
  by_cases h : j < k
  · rw [if_pos h]
  · rw [if_neg h, show j = k by omega]

set_option maxHeartbeats 4000000 in
set_option maxRecDepth 100000 in
theorem cacheRoom_any (w : World) (n : Int) (a : Option Addr) (m c : Nat) (s : Nat → ByteArray) (now : Int) (hv : RdF w (.slice a m c) m (fun j => .string (s j))) (hss : ∀ j, j < m → (s j).size ≤ 140737488355328) (hnow : -9223372036854775808 ≤ now ∧ now ≤ 9223372036854775807) :
    Calls Try.prog 4 #[.int .i64 n, .slice a m c, .int .i64 now] w fun e w' => e = .returned (.bool true) ∧ FrH ⟨w.heap.size, []⟩ w w' := by
  have HV := Lib.hid hv; clear hv
  have HSS := Lib.hid hss; clear hss
  go_enter Try.func4, Try.ntmps4
  go_wp2_with fail
  refine (cached_any w).mono ?_
  rintro e wz ⟨rfl, hfz⟩
  have HFZ := Lib.hid hfz; clear hfz
  go_wp2_with fail
  by_cases hno : 1 ≤ n ∧ n ≤ 64
  case neg =>
    refine (new_bad wz n (by omega)).mono ?_
    rintro e w1 ⟨rfl, rfl⟩
    go_wp2_with fail
    go_ret
    exact ⟨rfl, HFZ.out⟩
  refine (new_ok wz n hno).mono ?_
  rintro e w1 ⟨rfl, hC, hf1⟩
  have HC := Lib.hid hC; clear hC
  have HF1 := Lib.hid hf1; clear hf1
  have HN := Lib.hid hno; clear hno
  by_cases hm : m ≤ 100
  case neg =>
    have e2 : (100 : Int) < (m : Int) := by omega
    go_wp2_with fail
    go_ret
    exact ⟨rfl, HFZ.out.joinF HF1.out (by simp)⟩
  have e2 : ¬ (100 : Int) < (m : Int) := by omega
  by_cases hn0 : now < 0
  · go_wp2_with fail
    go_ret
    exact ⟨rfl, HFZ.out.joinF HF1.out (by simp)⟩
  by_cases hn1 : 1099511627776 < now
  · go_wp2_with fail
    go_ret
    exact ⟨rfl, HFZ.out.joinF HF1.out (by simp)⟩
  have HST : Hid (RmA wz n s now 0 (.slice none 0 0) w1) := ⟨.slice none 0 0, [], HC.out, by simp [ddK], by simp, OwnF.nil _ _ _ _, by omega, HF1.out.hot0 _⟩
  clear HC
  go_wp2_with fail
  go_loopw [10, 11] (fun va vi wr => ∃ k : Nat, k ≤ m ∧ vi = .int .i64 k ∧ RmA wz n s now k va wr) (fun _ vi _ => m - (intOf vi).toNat)
  case atStart => exact ⟨0, by omega, rfl, HST.out⟩
  case round =>
    obtain ⟨k, hk, rfl, v, l, hC, hkeys, hat, ho, hsz, hf⟩ := hrel
    obtain ⟨aa, ca, rfl⟩ := ho.rd.slice
    have HC := Lib.hid hC
    have HO := Lib.hid ho
    have HK := Lib.hid hkeys
    have HAT := Lib.hid hat
    have HSZ := Lib.hid hsz
    have HF := Lib.hid hf
    have HFW := Lib.hid (HFZ.out.join hf (by have := HFZ.out.size; exact this) (by simp))
    clear hC ho hkeys hat hsz hf HST HF1
    by_cases hlt : k < m
    · obtain ⟨b1, o1, c1, he1, _, _, _, hc1⟩ := HV.out.shape (by omega)
      simp only [Value.slice.injEq, true_and] at he1
      obtain ⟨rfl, rfl⟩ := he1
      have K1 := Lib.hid (hc1 k hlt)
      have HNH := Lib.hid (Cold.old (B := ⟨w.heap.size, []⟩) HV.out ⟨Nat.le_refl _, by simp⟩ b1 o1 m c rfl (by omega)).2
      have q1 := HFW.out.cell K1.out HNH.out
      have q1b : ∀ x y z u : Obj, ((((wr.alloc x).alloc y).alloc z).alloc u).cell? ⟨b1, o1 + k, none⟩ = some (.string (s k)) := fun x y z u => (((((Fr.refl [] wr).alloc x).alloc y).alloc z).alloc u).cell q1 (by simp)
      clear hc1
      have k0 : (0 : Int) ≤ (k : Int) := by omega
      have k3 : (k : Int) < (m : Int) := by omega
      have HPZ := Lib.hid (putZ_same 1 (fun _ => s k) 1000 now (by decide) (by omega))
      have HSK := Lib.hid (HSS.out k hlt)
      go_wp2_with fail
      refine calls_gen (fun W => W.heap[wr.heap.size]? = some (.cells #[.string (s k)] 9) ∧ W.heap[wr.heap.size + 1]? = some (.cells #[.slice (some ⟨wr.heap.size, 0, none⟩) 1 1, .int .i64 1, .int .i64 1] 48) ∧ W.heap[wr.heap.size + 1 + 1 + 1 + 1]? = some (.cells #[.string (s k)] 9) ∧ W.heap[wr.heap.size + 1 + 1 + 1 + 1 + 1]? = some (.cells #[.slice (some ⟨wr.heap.size + 1 + 1 + 1 + 1, 0, none⟩) 1 1, .int .i64 1, .int .i64 1, .int .i64 1000, .slice none 0 0] 44) ∧ Fr [] wr W ∧ W.heap.size = wr.heap.size + 1 + 1 + 1 + 1 + 1 + 1)
        (six_new wr _ _ _ _ _ _) ?_
      rintro W ⟨g0, g1, g4, g5, hfW, hszW⟩
      clear q1b
      have HLO := Lib.hid HO.out.lt
      have HGE := Lib.hid HO.out.ge
      have hns : ∀ q, wr.heap.size ≤ q → q ∉ (Value.slice aa k ca).ownBlock.toList := fun q hq hm => by have := HLO.out q hm; omega
      have hqm : MsOk ⟨wz.heap.size, (Value.slice aa k ca).ownBlock.toList⟩ W (qM 1 (fun _ => s k)) (.slice (some ⟨wr.heap.size + 1, 0, none⟩) 1 1) (.slice none 0 0) (.slice none 0 0) (.slice none 0 0) := qM_ok g1 (hns _ (by omega)) (NmAt.one g0 (hns _ (by omega)) HSK.out)
      have ham : MsOk ⟨wz.heap.size, (Value.slice aa k ca).ownBlock.toList⟩ W (aM 1 (fun _ => s k) 1000) (.slice (some ⟨wr.heap.size + 1, 0, none⟩) 1 1) (.slice (some ⟨wr.heap.size + 1 + 1 + 1 + 1 + 1, 0, none⟩) 1 1) (.slice none 0 0) (.slice none 0 0) :=
        aM_ok g1 (hns _ (by omega)) g5 (hns _ (by omega)) (NmAt.one g0 (hns _ (by omega)) HSK.out) (NmAt.one g4 (hns _ (by omega)) HSK.out) (by decide)
      have hcW := HC.out.fr0 hfW
      have hsz0 := HF.out.size
      have HFA := Lib.hid hfW
      have HCW := Lib.hid hcW
      have HPUT := Lib.hid (put_any W ⟨wz.heap.size, (Value.slice aa k ca).ownBlock.toList⟩ wz.heap.size n v l (qM 1 (fun _ => s k)) (aM 1 (fun _ => s k) 1000) _ _ _ _ _ _ _ _ now false 0 hcW hqm ham (qM_find hqm) (by show (1 + 0 + 0 + 0) * 72 ≤ 140737488355328; decide) ⟨by show wz.heap.size ≤ _; omega, fun x hx => by have := HLO.out x hx; omega⟩ hnow)
      clear hns hqm ham hcW hfW g0 g1 g4 g5
      refine HPUT.out.mono ?_
      rintro e w2 h2
      clear HPUT
      rcases h2 with ⟨h2, rfl, hf2⟩ | ⟨h2, rfl, v', hca, hfh, hfo⟩
      · rw [HPZ.out] at h2
        rw [HPZ.out]
        have hfr : Fr [] wr w2 := HFA.out.trans hf2 (by simp)
        have q2 := hfr.cell q1 (by simp)
        have HFR := Lib.hid hfr
        have HNF := Lib.hid (fun wx (b : Nat) hb => nameFault_any (wx.alloc (.cells #[.string (s k)] 9)) (some ⟨b, 0, none⟩) 1 1 (fun _ => s k) (rd_one wx (.string (s k)) 9 (b := b) hb) (fun j _ => HSK.out))
        clear hfr hf2 q1
        generalize nmFault 1 (fun _ => s k) = z at *
        go_wp2_with fail
        refine (HNF.out _ _ rfl).mono ?_
        rintro e w3 ⟨rfl, rfl⟩
        have hzz : (z != 0) = true := by simpa using h2
        go_wp2_with fail
        go_ret
        exact ⟨rfl, HFW.out.joinF (HFR.out.alloc _) (by simp)⟩
      · rw [HPZ.out] at h2
        have hs63 := h2
        have HO2 := Lib.hid ((HO.out.kept HFA.out (by simp)).keptCa HCW.out hfo)
        have HF2 := Lib.hid ((HF.out.joinF HFA.out (by simp)).join hfh (by show wz.heap.size ≤ wz.heap.size; omega) (fun x hx => HGE.out x hx))
        have q2 := ((HFW.out.joinF HFA.out (by simp)).join hfh (by have := HFZ.out.size; exact this) (fun x hx => by have := HGE.out x hx; have := HFZ.out.size; omega)).cell K1.out HNH.out
        have hsz2 := HF2.out.size
        have HCA := Lib.hid hca
        have HPE := Lib.hid (putE_aM 1 (fun _ => s k) 1000 now (by decide))
        clear hca hfh hfo q1 h2 HPZ
        generalize putE (qM 1 (fun _ => s k)) (aM 1 (fun _ => s k) 1000) false now = E at *
        go_wp2_with (at_builtin; refine wpList_app rfl (.tmp 85) (.tmp 90) 42 rfl 9 infoStr Try.underlying42 rfl (HO2.out.alloc _) rfl (rd_one _ _ _ rfl) rfl (fun _ _ => rfl) (by unfold maxLen; omega) (by omega) (by simp; omega) ?_; intro v3 w3 ho3 hf3 hn3)
        go_roundw
        case rel =>
          refine ⟨k + 1, by omega, by go_num, v', frL E n l, HCA.out.grown HO2.out hf3 hn3, room_step HN.out.1 HK.out HPE.out.1, fun x hx => ?_, ho3.congr (fun j hj => app_strs j hj), fun j hj => ?_, ?_⟩
          · rcases frL_sub x hx with rfl | hx
            · exact ⟨HPE.out.2.1, HPE.out.2.2⟩
            · exact HAT.out x hx
          · by_cases hjk : j = k
            · rw [hjk]; exact hs63
            · exact HSZ.out j (by omega)
          · exact HF2.out.joinF (((Fr.refl _ _).alloc _).trans hf3 (fun x hx => .inl hx)) (fun x hx => HGE.out x hx)
        case measure => (simp [intOf] <;> omega)
    · obtain rfl : k = m := by omega
      have HGE := Lib.hid HO.out.ge
      have HLO := Lib.hid HO.out.lt
      have HST : Hid (RmB wz n s k v l (.slice aa k ca) (k - k) (.slice none 0 0) wr) := by
        rw [Nat.sub_self]
        exact ⟨Nat.zero_le _, HC.out.turn rfl (by simp [Value.ownBlock]), HO.out, OwnF.nil _ _ _ _, by simp [Value.ownBlock], HF.out⟩
      clear HC HO HFW HLO HF
      go_wp2_with fail
      go_loopw [14, 15] (fun vl vi w2 => ∃ d : Nat, d ≤ k ∧ vi = .int .i64 ((d : Int) - 1) ∧ RmB wz n s k v l (.slice aa k ca) (k - d) vl w2) (fun _ vi _ => (intOf vi + 1).toNat)
      case atStart => exact ⟨k, Nat.le_refl _, rfl, HST.out⟩
      case round =>
        obtain ⟨d, hd, rfl, hcm, hC2, hA2, hL2, hap2, hF2⟩ := hrel
        obtain ⟨la, lc, rfl⟩ := hL2.rd.slice
        have HC2 := Lib.hid hC2
        have HA2 := Lib.hid hA2
        have HL2 := Lib.hid hL2
        have HAP2 := Lib.hid hap2
        have HF2 := Lib.hid hF2
        clear hC2 hA2 hL2 hap2 hF2 HST
        by_cases hd0 : d = 0
        · subst hd0
          have hz : ¬ (0 : Int) ≤ ((0 : Nat) : Int) - 1 := by omega
          rw [Nat.sub_zero, lst_all] at HL2
          rw [Nat.sub_zero, lst_all]
          have HLE := Lib.hid (show (ddk (fun j => smB (s j)) k).length ≤ k by rw [← lst_all]; exact lst_len _ _ _)
          have hle : (ddk (fun j => smB (s j)) k).length ≤ 100 := by have := HLE.out; omega
          have HST : Hid (RmC wz n ((ddK (fun j => k1 (s j)) k).take n.toNat) now (ddk (fun j => smB (s j)) k) (.slice la (ddk (fun j => smB (s j)) k).length lc) wr) :=
            ⟨v, l, HC2.out.turn rfl (fun x hx => by simp at hx), by rw [HK.out]; exact (ddK_nodup _ _).sublist (List.take_sublist _ _), fun x => by rw [HK.out], HAT.out, HL2.out, HF2.out⟩
          have HTH := Lib.hid (fun j (hj : j < (ddk (fun j => smB (s j)) k).length) => name_there s k j n HN.out.1 hj)
          have HSM := Lib.hid (fun j (hj : j < (ddk (fun j => smB (s j)) k).length) => ddk_sm s k j HSZ.out hj)
          clear HC2 HA2 HL2 HAP2 HF2 HK HAT HSZ
          generalize (ddK (fun j => k1 (s j)) k).take n.toNat = KS at *
          generalize ddk (fun j => smB (s j)) k = L at *
          go_wp2_with fail
          go_loopw [19] (fun vi w3 => ∃ d : Nat, d ≤ L.length ∧ vi = .int .i64 ((d : Int) - 1) ∧ RmC wz n KS now L (.slice la L.length lc) w3) (fun vi _ => (intOf vi + 1).toNat)
          case atStart => exact ⟨L.length, Nat.le_refl _, rfl, HST.out⟩
          case round =>
            obtain ⟨d, hd, rfl, v, l, hC, hnd, hks, hat, hL, hF⟩ := hrel
            have HC := Lib.hid hC
            have HND := Lib.hid hnd
            have HKS := Lib.hid hks
            have HAT := Lib.hid hat
            have HL := Lib.hid hL
            have HF := Lib.hid hF
            clear hC hnd hks hat hL hF HST
            by_cases hd0 : d = 0
            · subst hd0
              have hz : ¬ (0 : Int) ≤ ((0 : Nat) : Int) - 1 := by omega
              go_wp2_with fail
              go_ret
              exact ⟨rfl, HFZ.out.join HF.out (by have := HFZ.out.size; exact this) (by simp)⟩
            · obtain ⟨j, rfl⟩ : ∃ j, d = j + 1 := ⟨d - 1, by omega⟩
              rw [show (((j + 1 : Nat) : Int) - 1) = (j : Int) by omega]
              obtain ⟨g, cap, e1, _, hrow⟩ := HL.out.row (by omega)
              simp only [Value.slice.injEq, true_and] at e1
              obtain ⟨rfl, rfl⟩ := e1
              have q1 := hrow.cell j (by omega)
              clear hrow
              have l0 : (0 : Int) ≤ (j : Int) := by omega
              have l1 : (j : Int) < (L.length : Int) := by omega
              have HT1 := Lib.hid (HTH.out j (by omega))
              have HS1 := Lib.hid (HSM.out j (by omega))
              generalize L.getD j ⟨#[]⟩ = Y at *
              have b1 : now + 999 ≤ 9223372036854775807 := by omega
              go_wp2_with fail
              refine calls_gen (fun W => W.heap[wr.heap.size]? = some (.cells #[.string Y] 9) ∧ W.heap[wr.heap.size + 1]? = some (.cells #[.slice (some ⟨wr.heap.size, 0, none⟩) 1 1, .int .i64 1, .int .i64 1] 48) ∧ Fr [] wr W)
                (by obtain ⟨h1, h2, _, _⟩ := three_new wr _ _ _; exact ⟨h1, h2, (((Fr.refl [] wr).alloc _).alloc _).alloc _⟩) ?_
              rintro W ⟨g0, g1, hfW⟩
              have hqm : MsOk ⟨wz.heap.size, []⟩ W (qM 1 (fun _ => Y)) (.slice (some ⟨wr.heap.size + 1, 0, none⟩) 1 1) (.slice none 0 0) (.slice none 0 0) (.slice none 0 0) := qM_ok g1 (by simp) (NmAt.one g0 (by simp) (by have := (nmFault_ok HS1.out).1 0 (by omega); show Y.size ≤ _; omega))
              have hcW := HC.out.fr0 hfW
              have hsz0 := HF.out.size
              have hszW := hfW.size
              have HGT := Lib.hid (get_any W ⟨wz.heap.size, []⟩ wz.heap.size n v l (qM 1 (fun _ => Y)) _ _ _ _ (now + 999) false 0 hcW hqm (qM_find hqm) ⟨by show wz.heap.size ≤ _; omega, by simp⟩ (by omega) (fun e he => by rw [(HAT.out e he).1]; omega))
              have hkf : keyFault (qM 1 (fun _ => Y)) 0 = 0 := (qM_fault _ _).trans HS1.out
              have HFA := Lib.hid (HF.out.joinF hfW (by simp))
              have HL2 := Lib.hid (HL.out.kept hfW (by simp))
              have hmem : fIx (k1 Y) l < l.length ↔ (j : Int) < n := fIx_mem.trans ((HKS.out _).trans HT1.out)
              by_cases hjn : (j : Int) < n
              · have hix : fIx (keyL ((qM 1 (fun _ => Y)).Q 0) (qM 1 (fun _ => Y)).h.rd false) l < l.length := hmem.2 hjn
                have hin : l[fIx (keyL ((qM 1 (fun _ => Y)).Q 0) (qM 1 (fun _ => Y)).h.rd false) l]'hix ∈ l := List.getElem_mem _
                have HTOLD := Lib.hid (fun (w' : World) (e : Ending) (h : GetGood W w' ⟨wz.heap.size, []⟩ wz.heap.size n v l (qM 1 (fun _ => Y)) false 0 (now + 999) e) => GetGood.told h hkf _ hix rfl (by
                  unfold fresh
                  rw [(HAT.out _ hin).1, (HAT.out _ hin).2]
                  simp
                  omega))
                obtain ⟨hk1, hk2⟩ := get_keys hix hcW.len HND.out
                have HK1 := Lib.hid hk1
                have HK2 := Lib.hid (fun x => (hk2 x).trans (HKS.out x))
                have HK3 := Lib.hid (fun e (he : e ∈ frL (l[fIx (keyL ((qM 1 (fun _ => Y)).Q 0) (qM 1 (fun _ => Y)).h.rd false) l]'hix) n l) => show e.at_ = now ∧ e.life = 1000 from by
                  rcases frL_sub e he with rfl | h
                  · exact HAT.out _ hin
                  · exact HAT.out e h)
                generalize frL (l[fIx (keyL ((qM 1 (fun _ => Y)).Q 0) (qM 1 (fun _ => Y)).h.rd false) l]'hix) n l = l2 at *
                generalize tolM (qM 1 (fun _ => Y)) (l[fIx (keyL ((qM 1 (fun _ => Y)).Q 0) (qM 1 (fun _ => Y)).h.rd false) l]'hix).m (now + 999 - (l[fIx (keyL ((qM 1 (fun _ => Y)).Q 0) (qM 1 (fun _ => Y)).h.rd false) l]'hix).at_) = tm at *
                clear hqm hcW hkf hmem hin hk1 hk2 hfW g0 g1 HC HND HKS HAT HL HF q1
                refine HGT.out.mono ?_
                rintro e w4 h4
                obtain ⟨vq, va, vu, vm, rfl, hms, v2, hca, hfh⟩ := HTOLD.out _ _ h4
                obtain ⟨_, j0⟩ := hms.hq
                obtain ⟨_, j1⟩ := hms.ha
                obtain ⟨_, j2⟩ := hms.hu
                obtain ⟨_, j3⟩ := hms.hm
                obtain ⟨s0, t0, rfl⟩ := j0.rd.slice
                obtain ⟨s1, t1, rfl⟩ := j1.rd.slice
                obtain ⟨s2, t2, rfl⟩ := j2.rd.slice
                obtain ⟨s3, t3, rfl⟩ := j3.rd.slice
                have HCA := Lib.hid hca
                have HFH := Lib.hid hfh
                clear h4 hms j0 j1 j2 j3 hca hfh HGT HTOLD
                unfold msgV
                generalize tm.h = hh
                obtain ⟨i0, i1, i2, i3, i4, i5, i6, i7, i8, i9, i10⟩ := hh
                go_wp2_with fail
                go_roundw
                case rel => exact ⟨j, by omega, by go_num, v2, l2, HCA.out.fr0 ((Fr.refl [] _).alloc _), HK1.out, HK2.out, HK3.out, (HL2.out.frH (by decide) (by simp) HFH.out).alloc _, (HFA.out.trans HFH.out).joinF ((Fr.refl [] _).alloc _) (by simp)⟩
                case measure => (simp [intOf] <;> omega)
              · have HNONE := Lib.hid (fun (w' : World) (e : Ending) (h : GetGood W w' ⟨wz.heap.size, []⟩ wz.heap.size n v l (qM 1 (fun _ => Y)) false 0 (now + 999) e) => GetGood.none h hkf (fun hix => absurd (hmem.1 hix) hjn))
                have HCW := Lib.hid hcW
                clear hqm hcW hkf hmem hfW g0 g1 HC HL HF q1
                refine HGT.out.mono ?_
                rintro e w4 h4
                obtain ⟨rfl, hf4⟩ := HNONE.out _ _ h4
                have HF4 := Lib.hid hf4
                clear h4 hf4 HGT HNONE
                unfold zMsg
                go_wp2_with fail
                go_roundw
                case rel => exact ⟨j, by omega, by go_num, v, l, (HCW.out.fr0 HF4.out).fr0 ((Fr.refl [] _).alloc _), HND.out, HKS.out, HAT.out, (HL2.out.kept HF4.out (by simp)).alloc _, HFA.out.joinF (HF4.out.trans ((Fr.refl [] _).alloc _) (by simp)) (by simp)⟩
                case measure => (simp [intOf] <;> omega)
        · obtain ⟨i, rfl⟩ : ∃ i, d = i + 1 := ⟨d - 1, by omega⟩
          rw [show (((i + 1 : Nat) : Int) - 1) = (i : Int) by omega]
          obtain ⟨g, cap, e1, _, hrow⟩ := HA2.out.row (by omega)
          simp only [Value.slice.injEq, true_and] at e1
          obtain ⟨rfl, rfl⟩ := e1
          have q1 := hrow.cell i (by omega)
          clear hrow
          have l0 : (0 : Int) ≤ (i : Int) := by omega
          have l1 : (i : Int) < (k : Int) := by omega
          have HLL := Lib.hid (lst_len (fun j => smB (s j)) k (k - (i + 1)))
          have HLS := Lib.hid (lst_step (fun j => smB (s j)) k i (by omega))
          have HSI := Lib.hid ((nmFault_ok (HSZ.out i (by omega))).1 0 (by omega))
          unfold RmB
          generalize lst (fun j => smB (s j)) k (k - (i + 1)) = L at *
          have hlen : L.length ≤ 100 := by have := HLL.out; omega
          go_wp2_with fail
          refine (folded_any _ (s i) (by have := HSI.out; omega)).mono ?_
          rintro e w3 ⟨rfl, hf3⟩
          have HF3 := Lib.hid hf3
          have HC3 := Lib.hid (HC2.out.fr0 hf3)
          have HA3 := Lib.hid (HA2.out.kept hf3 (by simp))
          have HL3 := Lib.hid (HL2.out.kept hf3 (by simp))
          have HF3 := Lib.hid (HF2.out.joinF hf3 (by simp))
          clear hf3 q1 HC2 HA2 HL2 HF2
          generalize hX : smB (s i) = X at *
          go_wp2_with fail
          go_loopw [17, 18] (fun vm vj w4 => ∃ j : Nat, j ≤ L.length ∧ vj = .int .i64 j ∧ vm = .bool (memB X (L.take j)) ∧ w4 = w3) (fun _ vj _ => L.length - (intOf vj).toNat)
          case atStart => exact ⟨0, by omega, rfl, by rw [List.take_zero, memB_nil], rfl⟩
          case round =>
            obtain ⟨j, hj, rfl, rfl, rfl⟩ := hrel
            by_cases hjl : j < L.length
            · obtain ⟨g2, cap2, e2, _, hrow2⟩ := HL3.out.row (by omega)
              simp only [Value.slice.injEq, true_and] at e2
              obtain ⟨rfl, rfl⟩ := e2
              have q2 := hrow2.cell j hjl
              clear hrow2
              have l2 : (0 : Int) ≤ (j : Int) := by omega
              have l3 : (j : Int) < (L.length : Int) := by omega
              have HTK := Lib.hid (show L.take (j + 1) = L.take j ++ [L.getD j ⟨#[]⟩] by
                rw [List.take_add_one, List.getD_eq_getElem?_getD, List.getElem?_eq_getElem hjl]
                rfl)
              generalize L.getD j ⟨#[]⟩ = Y at *
              by_cases hXY : X = Y
              · have hb : (Y.toList == X.toList) = true := by rw [hXY]; simp
                have HMB := Lib.hid (show memB X (L.take (j + 1)) = true by rw [HTK.out]; exact memB_hit hXY)
                clear hXY
                go_wp2_with fail
                go_roundw
                case rel => exact ⟨j + 1, by omega, by go_num, by rw [HMB.out], by first | trivial | rfl⟩
                case measure => (simp [intOf] <;> omega)
              · have hb : (Y.toList == X.toList) = false := by
                  rw [beq_eq_false_iff_ne]
                  intro e
                  rw [ByteArray.toList_eq, ByteArray.toList_eq] at e
                  exact hXY (by
                    have e2 : X.data = Y.data := Array.toList_inj.1 e.symm
                    cases X; cases Y
                    simp only at e2
                    rw [e2])
                have HMB := Lib.hid (show memB X (L.take (j + 1)) = memB X (L.take j) by rw [HTK.out]; exact memB_miss hXY)
                clear hXY
                go_wp2_with fail
                go_roundw
                case rel => exact ⟨j + 1, by omega, by go_num, by rw [HMB.out], by first | trivial | rfl⟩
                case measure => (simp [intOf] <;> omega)
            · obtain rfl : j = L.length := by omega
              rw [List.take_length]
              cases hmm : memB X L
              case true =>
                have HLL2 := Lib.hid (HLS.out.trans (if_pos hmm))
                clear hmm
                go_wp2_with fail
                go_roundw
                case rel =>
                  refine ⟨i, by omega, by go_num, by omega, HC3.out, HA3.out, ?_, HAP2.out, HF3.out⟩
                  rw [HLL2.out]
                  exact HL3.out
                case measure => (simp [intOf] <;> omega)
              case false =>
                have HLL2 := Lib.hid (HLS.out.trans (if_neg (by rw [hmm]; decide)))
                have hL1 : L.length + 1 ≤ 100 := by have := HLL.out; omega
                clear hmm
                go_wp2_with (at_builtin; refine wpList_app rfl (.tmp 118) (.tmp 120) 42 rfl 9 infoStr Try.underlying42 rfl (HL3.out.alloc _) rfl (rd_one _ _ _ rfl) rfl (fun _ _ => rfl) (by unfold maxLen; omega) (by omega) (by have := HF3.out.size; simp; omega) ?_; intro v5 w5 ho5 hf5 hn5)
                go_roundw
                case rel =>
                  have hap : ∀ x ∈ v5.ownBlock.toList, x ∉ (Value.slice (some ⟨g, 0, none⟩) k ca).ownBlock.toList := fun x hx hm => by
                    rcases hn5 x hx with h1 | h1
                    · exact HAP2.out x h1 hm
                    · have := HA3.out.lt x hm
                      simp at h1
                      omega
                  refine ⟨i, by omega, by go_num, by omega, HC3.out.grown HL3.out hf5 hn5, ?_, ?_, hap, ?_⟩
                  · refine (HA3.out.alloc _).kept hf5 (fun g' hg' hm => ?_)
                    exact HAP2.out g' hm (by rw [hg']; simp)
                  · rw [HLL2.out, List.length_append]
                    refine ho5.congr (fun q hq => ?_)
                    show _ = Value.string ((L ++ [X]).getD q ⟨#[]⟩)
                    unfold app
                    by_cases hql : q < L.length
                    · rw [if_pos hql]
                      show Value.string (L.getD q ⟨#[]⟩) = _
                      rw [List.getD_eq_getElem?_getD, List.getD_eq_getElem?_getD, List.getElem?_append_left hql]
                    · rw [if_neg hql, show q = L.length by omega, List.getD_eq_getElem?_getD, List.getElem?_append_right (Nat.le_refl _), Nat.sub_self]
                      rfl
                  · exact HF3.out.joinF (((Fr.refl _ _).alloc _).trans hf5 (fun x hx => .inl hx)) (fun x hx => HL3.out.ge x hx)
                case measure => (simp [intOf] <;> omega)

end Go.Proofs.Ytcfdlilhhfaaaaa
