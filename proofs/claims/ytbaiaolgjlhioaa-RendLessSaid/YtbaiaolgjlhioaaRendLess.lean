/- RendLess: the walk. -/
import Derived.Test.YtbaiaolgjlhioaaRendLaw0
import Derived.Test.YtbaiaolgjlhioaaWoPlain
import Derived.Test.YtbaiaolgjlhioaaInts
import Derived.BigQuiet
namespace Go.Proofs.Ytbaiaolgjlhioaa
open Go.RowKit Go.Sort

set_option maxHeartbeats 4000000 in
set_option maxRecDepth 100000 in
theorem rendLess_any (w : World) (a : Option Addr) (n c : Nat) (p : Nat → Int × Int) (hv : RdP w (.slice a n c) n p) (hn : n * 16 ≤ 140737488351232)
    (k : Int) (ka : Option Addr) (m kc : Nat) (kf : Nat → Int) (hk : RdF w (.slice ka m kc) m (fun j => .int .u8 (kf j))) (hb : ∀ j, j < m → 0 ≤ kf j ∧ kf j ≤ 255) (hm : m ≤ 140737488351232) :
    Calls Try.prog 3 #[.slice a n c, .int .i64 k, .slice ka m kc] w fun e w' => e = .returned (.bool true) ∧ Fr [] w w' := by
  have HV := Lib.hid hv; clear hv
  have HK := Lib.hid hk; clear hk
  have HKB := Lib.hid hb; clear hb
  have HF0 := Lib.hid ((Fr.refl [] w).alloc (.cells #[.int .i64 5, .int .i64 1] 29))
  have HR0 := Lib.hid (rdp_one w 5 1 29 rfl)
  go_enter Try.func3, Try.ntmps3
  go_wp2_with fail
  generalize w.alloc (.cells #[.int .i64 5, .int .i64 1] 29) = w0 at *
  refine (rend_fact _ _ _ _ HR0.out rfl).mono ?_
  rintro e w1 ⟨rfl, hf1⟩
  have HF1 := Lib.hid (HF0.out.trans hf1 (by simp)); clear hf1
  go_wp2_with fail
  refine (order_any _ a n c p (HV.out.fr HF1.out) ka m kc kf (HK.out.fr HF1.out (by simp)) HKB.out hm).mono ?_
  rintro e w2 ⟨⟨hz, v, rfl, hO⟩ | ⟨hz, rfl⟩, hf2⟩
  case inr =>
    have HF2 := Lib.hid (HF1.out.trans hf2 (by simp))
    have e : erV (nfault p n) = .iface 59 (.int .i64 (nfault p n)) := by unfold erV; rw [if_neg hz]
    rw [e]
    clear e hz hf2
    go_wp2
    go_ret
    exact ⟨rfl, HF2.out⟩
  have HGD := Lib.hid ((nfault_iff p n).1 hz)
  obtain ⟨ao, co, hvo⟩ := hO.rd.slice
  subst hvo
  have HO := Lib.hid hO.rd
  have HF2 := Lib.hid (HF1.out.trans hf2 (by simp))
  clear hz hO hf2
  have h40 := HGD.out.n40
  have h0 := HGD.out.n0
  by_cases hk0 : k < 0
  · go_wp2
    go_ret
    exact ⟨rfl, HF2.out⟩
  by_cases hk1 : (n : Int) ≤ k
  · go_wp2
    go_ret
    exact ⟨rfl, HF2.out⟩
  obtain ⟨x, rfl⟩ : ∃ x : Nat, k = (x : Int) := ⟨k.toNat, by omega⟩
  have hxn : x < n := by omega
  have x0 : (0 : Int) ≤ (x : Int) := by omega
  have x1 : (x : Int) < (n : Int) := by omega
  have y0 : decide ((x : Int) < 0) = false := by simp
  have y1 : decide (n ≤ x) = false := by simp; omega
  clear hk0 hk1
  by_cases h1 : n = 1
  · subst h1
    go_wp2
    go_ret
    exact ⟨rfl, HF2.out⟩
  have hn1 : ((n : Int) == 1) = false := by simp; omega
  go_wp2_with fail
  refine (without_any _ a n c p (HV.out.fr HF2.out) hn x hxn).mono ?_
  rintro e w3 ⟨v, rfl, hO3, hf3⟩
  obtain ⟨a3, c3, hv3⟩ := hO3.rd.slice
  subst hv3
  have HF3 := Lib.hid (HF2.out.trans hf3 (by simp))
  have HO3 := Lib.hid hO3.rd
  have HOa := Lib.hid (HO.out.fr hf3 (by simp))
  clear hO3 hf3 HO
  go_wp2_with fail
  refine (order_any _ a3 (n - 1) c3 (wo p x) HO3.out ka m kc kf (HK.out.fr HF3.out (by simp)) HKB.out hm).mono ?_
  rintro e w4 ⟨⟨hz, v, rfl, hO4⟩ | ⟨hz, rfl⟩, hf4⟩
  case inr => exact absurd ((nfault_iff _ _).2 (wo_good' HGD.out x hxn h1)) hz
  obtain ⟨ap, cp, hvp⟩ := hO4.rd.slice
  subst hvp
  have HP := Lib.hid hO4.rd
  have HF4 := Lib.hid (HF3.out.trans hf4 (by simp))
  have HOb := Lib.hid (HOa.out.fr hf4 (by simp))
  clear hz hO4 hf4 HOa
  obtain ⟨b, o, cap', he, hnc, hcm, hbw, hc⟩ := HV.out.shape (by omega)
  simp only [Value.slice.injEq, true_and] at he
  obtain ⟨rfl, rfl⟩ := he
  obtain ⟨k0, _⟩ := hc x hxn
  have HK0 := Lib.hid (HF4.out.cell k0 (by simp))
  obtain ⟨ID, hID⟩ : ∃ ID, (p x).1 = ID := ⟨_, rfl⟩
  rw [hID] at HK0
  have HWL := Lib.hid (show ∀ j, j < n → wl (fun y => y != ID) (fun j => ordn p m kf n j) n = ordl (wo p x) m kf (n - 1) from fun _ _ => wl_ordl p (wo p x) m kf n (n - 1) (fun y => y != ID) _ (fun j _ => rfl) (scs_wo p m kf x ID hID n hxn (fun j hj hjx e => hjx (HGD.out.ne j x hj hxn (by rw [e, hID])))))
  clear hc k0 hID
  go_wp2
  go_loopw [13, 14] (fun v vi wr => ∃ i : Nat, i ≤ n ∧ vi = .int .i64 i ∧ OwnF wr w4.heap.size 3 v (wl (fun y => y != ID) (fun j => ordn p m kf n j) i).length (fun j => .int .i64 (li (wl (fun y => y != ID) (fun j => ordn p m kf n j) i) j)) ∧ Fr [] w4 wr) (fun _ vi _ => n - (intOf vi).toNat)
  case atStart => exact ⟨0, by omega, rfl, OwnF.nil _ _ _ _, Fr.refl _ _⟩
  case round =>
    obtain ⟨i, hi, rfl, hO, hf⟩ := hrel
    have HO := Lib.hid hO; clear hO
    have HF := Lib.hid hf; clear hf
    by_cases hlt : i < n
    · obtain ⟨bo, oo, cap2, he2, _, _, _, hc2⟩ := HOb.out.shape (by omega)
      simp only [Value.slice.injEq, true_and] at he2
      obtain ⟨rfl, rfl⟩ := he2
      have c0 := HF.out.cell (hc2 i hlt) (by simp)
      have c1 := HF.out.cell HK0.out (by simp)
      have HC0 := Lib.hid c0
      clear hc2
      have z0 : (0 : Int) ≤ (i : Int) := by omega
      have z1 : (i : Int) < (n : Int) := by omega
      have hwlen := wl_len (fun y => y != ID) (fun j => ordn p m kf n j) i
      have hws : ∀ t : Int, t = ordn p m kf n i → wl (fun y => y != ID) (fun j => ordn p m kf n j) (i + 1) = wl (fun y => y != ID) (fun j => ordn p m kf n j) i ++ (if (t != ID) = true then [t] else []) := fun t ht => by subst ht; rfl
      have HWS := Lib.hid hws; clear hws
      obtain ⟨t, ht⟩ : ∃ t, ordn p m kf n i = t := ⟨_, rfl⟩
      rw [ht] at c0 HC0
      have hws := HWS.out t ht.symm
      clear HWS ht
      generalize wl (fun y => y != ID) (fun j => ordn p m kf n j) i = WL at *
      generalize hWL2 : wl (fun y => y != ID) (fun j => ordn p m kf n j) (i + 1) = WL2 at *
      have HW2 := Lib.hid hWL2; clear hWL2
      have HWS := Lib.hid hws; clear hws
      by_cases heq : t = ID
      · subst heq
        have htt : (t != t) = false := by simp
        have HO2 := Lib.hid (show OwnF wr w4.heap.size 3 _ WL2.length (fun j => .int .i64 (li WL2 j)) by
          have e := HWS.out
          rw [if_neg (by simp), List.append_nil] at e
          rw [e]
          exact HO.out)
        go_wp2_with fail
        go_quiet (fail)
        go_wp2
        go_roundw
        case rel => exact ⟨i + 1, by omega, by go_num, by rw [HW2.out]; exact HO2.out.kept ((Fr.refl [] wr).drewN _) (by simp), HF.out.drewN _⟩
        case measure => simp [intOf]; omega
      · have htt : (t != ID) = true := by simpa using heq
        have HE := Lib.hid (show WL2 = WL ++ [t] by have e := HWS.out; rw [if_pos htt] at e; exact e)
        clear heq
        go_wp2_with fail
        go_quiet (fail)
        clear c0 c1
        have c0 : (wr.drewN nq).cell? ⟨bo, oo + i, none⟩ = some (.int .i64 t) := HC0.out
        have HOq := Lib.hid (show OwnF ((wr.drewN nq).alloc (.cells #[.int .i64 t] 3)) w4.heap.size 3 _ WL.length (fun j => .int .i64 (li WL j)) from (HO.out.kept ((Fr.refl [] wr).drewN nq) (by simp)).alloc _)
        have HFq := Lib.hid ((HF.out.drewN nq).alloc (.cells #[.int .i64 t] 3))
        have hszq : w4.heap.size ≤ (wr.drewN nq).heap.size := (HF.out.drewN nq).size
        generalize wr.drewN nq = wd at *
        go_wp2_with (at_builtin; refine wpList_app rfl (.tmp 75) (.tmp 80) 30 rfl 3 infoInt Try.underlying30 rfl HOq.out rfl (rd_one _ _ _ rfl) rfl (fun _ _ => rfl) (by unfold maxLen; omega) (by omega) (by simp; omega) ?_; intro v5 w5 ho5 hf5 hn5)
        have HO5 := Lib.hid (show OwnF w5 w4.heap.size 3 v5 WL2.length (fun j => .int .i64 (li WL2 j)) by rw [HE.out]; exact own_snoc ho5)
        have HF5 := Lib.hid (HFq.out.trans hf5 (fun y hy => .inr (HOq.out.ge y hy)))
        clear ho5 hf5 hn5 c0
        go_roundw
        case rel => exact ⟨i + 1, by omega, by go_num, by rw [HW2.out]; exact HO5.out, HF5.out⟩
        case measure => simp [intOf]; omega
    · obtain rfl : i = n := by omega
      have HWN := Lib.hid (HWL.out 0 h0)
      have hl := ordl_len (wo p x) m kf (i - 1)
      have hO2 := HO.out
      rw [HWN.out, hl] at hO2
      obtain ⟨aw, cw, hvw⟩ := hO2.rd.slice
      subst hvw
      have HO2 := Lib.hid hO2.rd
      have HP2 := Lib.hid (HP.out.fr HF.out (by simp))
      have HF5 := Lib.hid (HF4.out.trans HF.out (by simp))
      clear hO2 hl
      go_wp2_with fail
      refine (ints_any _ ap aw (i - 1) (i - 1) cp cw _ _ HP2.out HO2.out (by omega) (by omega)).mono ?_
      rintro e w6 ⟨rfl, q, rfl⟩
      rw [(eqUpTo_iff _ _ _).2 (fun j hj => by
        show ordn (wo p x) m kf (i - 1) j = li (ordl (wo p x) m kf (i - 1)) j
        unfold li
        rw [ordl_get _ _ _ _ _ hj]
        rfl)]
      have hcc : (decide (i - 1 = i - 1) && true) = true := by simp
      rw [hcc]
      go_wp2
      go_ret
      exact ⟨rfl, HF5.out.drewN _⟩

end Go.Proofs.Ytbaiaolgjlhioaa
