/- RendSome: the walk. -/
import Derived.Test.YtbaiaolgjlhioaaRendLaw0
import Derived.Test.YtbaiaolgjlhioaaSomGood
import Derived.Test.YtbaiaolgjlhioaaSome
import Derived.Test.YtbaiaolgjlhioaaInts
import Derived.BigQuiet
namespace Go.Proofs.Ytbaiaolgjlhioaa
open Go.RowKit Go.Sort

theorem scs_some {p : Nat → Int × Int} {n : Nat} (hp : NGood p n) (m : Nat) (kf : Nat → Int) (G : Nat → Bool) :
    (scs p m kf n).filter (fun x => metN (lp (som p G n)) x.2 (som p G n).length) = scs (lp (som p G n)) m kf (som p G n).length := by
  rw [scs_list]
  refine scs_som p m kf G _ n (fun i hi => ?_)
  show metN (lp (som p G n)) (p i).1 (som p G n).length = G i
  rw [Bool.eq_iff_iff, metN_iff]
  constructor
  · rintro ⟨j, hj, e⟩
    obtain ⟨t, ht, hG, e2⟩ := (som_mem p G n _).1 (lp_mem hj)
    rw [e2] at e
    obtain rfl := hp.ne t i ht hi e
    exact hG
  · intro hG
    have hm : p i ∈ som p G n := (som_mem p G n _).2 ⟨i, hi, hG, rfl⟩
    obtain ⟨j, hj, e⟩ := List.getElem_of_mem hm
    exact ⟨j, hj, by rw [lp_get hj, e]⟩

set_option maxHeartbeats 8000000 in
set_option maxRecDepth 100000 in
theorem rendSome_any (w : World) (a : Option Addr) (n c : Nat) (p : Nat → Int × Int) (hv : RdP w (.slice a n c) n p) (hn : n * 16 ≤ 140737488351232) (b2 : Option Addr) (m2 c2 : Nat) (f : Nat → Bool) (hf : RdF w (.slice b2 m2 c2) m2 (fun j => .bool (f j)))
    (k more : Int) (ka : Option Addr) (m kc : Nat) (kf : Nat → Int) (hk : RdF w (.slice ka m kc) m (fun j => .int .u8 (kf j))) (hb : ∀ j, j < m → 0 ≤ kf j ∧ kf j ≤ 255) (hm : m ≤ 140737488351232) :
    Calls Try.prog 4 #[.slice a n c, .slice b2 m2 c2, .int .i64 k, .int .i64 more, .slice ka m kc] w fun e w' => e = .returned (.bool true) ∧ Fr [] w w' := by
  have HV := Lib.hid hv; clear hv
  have HB := Lib.hid hf; clear hf
  have HK := Lib.hid hk; clear hk
  have HKB := Lib.hid hb; clear hb
  have HF0 := Lib.hid ((Fr.refl [] w).alloc (.cells #[.int .i64 5, .int .i64 1] 29))
  have HR0 := Lib.hid (rdp_one w 5 1 29 rfl)
  go_enter Try.func4, Try.ntmps4
  go_wp2_with fail
  generalize w.alloc (.cells #[.int .i64 5, .int .i64 1] 29) = w0 at *
  refine (rend_fact _ _ _ _ HR0.out rfl).mono ?_
  rintro e w1 ⟨rfl, hf1⟩
  have HF1 := Lib.hid (HF0.out.trans hf1 (by simp)); clear hf1
  go_wp2_with fail
  refine (order_any _ a n c p (HV.out.fr HF1.out) ka m kc kf (HK.out.fr HF1.out (by simp)) HKB.out hm).mono ?_
  rintro e w2 ⟨⟨hz, v, rfl, hO⟩ | ⟨hz, rfl⟩, hf2⟩
  case inr =>
    have HF2 := Lib.hid (HF1.out.trans hf2 (by simp))
    have e : erV (nfault p n) = .iface 59 (.int .i64 (nfault p n)) := by unfold erV; rw [if_neg hz]
    rw [e]
    clear e hz hf2
    go_wp2_with fail
    refine (some_any _ a n c p (HV.out.fr HF2.out) hn b2 m2 c2 f (HB.out.fr HF2.out (by simp))).mono ?_
    rintro e w3 ⟨v, rfl, hO3, hf3⟩
    have HF3 := Lib.hid (HF2.out.trans hf3 (by simp))
    clear hO3 hf3
    go_wp2
    go_ret
    exact ⟨rfl, HF3.out⟩
  have HGD := Lib.hid ((nfault_iff p n).1 hz)
  obtain ⟨ao, co, hvo⟩ := hO.rd.slice
  subst hvo
  have HO := Lib.hid hO.rd
  have HF2 := Lib.hid (HF1.out.trans hf2 (by simp))
  clear hz hO hf2
  have h40 := HGD.out.n40
  have h0 := HGD.out.n0
  go_wp2_with fail
  refine (some_any _ a n c p (HV.out.fr HF2.out) hn b2 m2 c2 f (HB.out.fr HF2.out (by simp))).mono ?_
  obtain ⟨G, hG⟩ : ∃ G : Nat → Bool, G = fun j => decide (j < m2) && f j := ⟨_, rfl⟩
  rw [← hG]
  clear hG
  rintro e w3 ⟨v, rfl, hO3, hf3⟩
  obtain ⟨a3, c3, hv3⟩ := hO3.rd.slice
  subst hv3
  have HF3 := Lib.hid (HF2.out.trans hf3 (by simp))
  have HOa := Lib.hid (HO.out.fr hf3 (by simp))
  have HGO := Lib.hid (fun h0 => som_good HGD.out G h0)
  have HSC := Lib.hid (fun (x : Nat) => scs_some HGD.out m kf G)
  have hlen := som_len p G n
  have HS := Lib.hid hO3.rd
  clear hO3 hf3 HO
  generalize som p G n = S at *
  generalize hN : S.length = N at *
  have HN := Lib.hid hN; clear hN
  by_cases hN0 : N = 0
  · subst hN0
    go_wp2
    go_ret
    exact ⟨rfl, HF3.out⟩
  have hNb : ((N : Int) == 0) = false := by simp; omega
  go_wp2_with fail
  refine (order_any _ a3 N c3 (lp S) HS.out ka m kc kf (HK.out.fr HF3.out (by simp)) HKB.out hm).mono ?_
  rintro e w4 ⟨⟨hz, v, rfl, hO4⟩ | ⟨hz, rfl⟩, hf4⟩
  case inr => exact absurd ((nfault_iff _ _).2 (HGO.out (by omega))) hz
  obtain ⟨ap, cp, hvp⟩ := hO4.rd.slice
  subst hvp
  have HGS := Lib.hid ((nfault_iff _ _).1 hz)
  have HP := Lib.hid hO4.rd
  have HF4 := Lib.hid (HF3.out.trans hf4 (by simp))
  have HOb := Lib.hid (HOa.out.fr hf4 (by simp))
  have HSb := Lib.hid (HS.out.fr hf4)
  clear hz hO4 hf4 HOa HS
  have HWL := Lib.hid (show ∀ j, j < n → wl (fun y => metN (lp S) y N) (fun j => ordn p m kf n j) n = ordl (lp S) m kf N from fun _ _ => wl_ordl p (lp S) m kf n N (fun y => metN (lp S) y N) _ (fun j _ => rfl) (HSC.out 0))
  clear HSC
  go_wp2
  go_loopw [18, 19] (fun v vi wr => ∃ i : Nat, i ≤ n ∧ vi = .int .i64 i ∧ OwnF wr w4.heap.size 3 v (wl (fun y => metN (lp S) y N) (fun j => ordn p m kf n j) i).length (fun j => .int .i64 (li (wl (fun y => metN (lp S) y N) (fun j => ordn p m kf n j) i) j)) ∧ Fr [] w4 wr) (fun _ vi _ => n - (intOf vi).toNat)
  case atStart => exact ⟨0, by omega, rfl, OwnF.nil _ _ _ _, Fr.refl _ _⟩
  case round =>
    obtain ⟨i, hi, rfl, hO, hf⟩ := hrel
    have HO := Lib.hid hO; clear hO
    have HF := Lib.hid hf; clear hf
    by_cases hlt : i < n
    · obtain ⟨bo, oo, cap2, he2, _, _, _, hc2⟩ := HOb.out.shape (by omega)
      simp only [Value.slice.injEq, true_and] at he2
      obtain ⟨rfl, rfl⟩ := he2
      have c0 := hc2 i hlt
      clear hc2
      have z0 : (0 : Int) ≤ (i : Int) := by omega
      have z1 : (i : Int) < (n : Int) := by omega
      have hwlen := wl_len (fun y => metN (lp S) y N) (fun j => ordn p m kf n j) i
      have hws : ∀ t : Int, t = ordn p m kf n i → wl (fun y => metN (lp S) y N) (fun j => ordn p m kf n j) (i + 1) = wl (fun y => metN (lp S) y N) (fun j => ordn p m kf n j) i ++ (if metN (lp S) t N = true then [t] else []) := fun t ht => by subst ht; rfl
      have HWS := Lib.hid hws; clear hws
      obtain ⟨t, ht⟩ : ∃ t, ordn p m kf n i = t := ⟨_, rfl⟩
      rw [ht] at c0
      have HC0 := Lib.hid c0; clear c0
      have hws := HWS.out t ht.symm
      clear HWS ht
      generalize wl (fun y => metN (lp S) y N) (fun j => ordn p m kf n j) i = WL at *
      generalize hWL2 : wl (fun y => metN (lp S) y N) (fun j => ordn p m kf n j) (i + 1) = WL2 at *
      have HW2 := Lib.hid hWL2; clear hWL2
      have HWS := Lib.hid hws; clear hws
      go_wp2
      go_loopw [18, 20] (fun v vj wr => ∃ j : Nat, j ≤ N ∧ vj = .int .i64 j ∧ OwnF wr w4.heap.size 3 v (WL ++ (if metN (lp S) t j = true then [t] else [])).length (fun x => .int .i64 (li (WL ++ (if metN (lp S) t j = true then [t] else [])) x)) ∧ Fr [] w4 wr) (fun _ vj _ => N - (intOf vj).toNat)
      case atStart => exact ⟨0, by omega, rfl, by simpa [metN] using HO.out, HF.out⟩
      case round =>
        clear HO HF
        obtain ⟨j, hj, rfl, hO, hf⟩ := hrel
        have HO := Lib.hid hO; clear hO
        have HF := Lib.hid hf; clear hf
        by_cases hlt2 : j < N
        · obtain ⟨bs, os, cap3, he3, _, _, _, hc3⟩ := HSb.out.shape (by omega)
          simp only [Value.slice.injEq, true_and] at he3
          obtain ⟨rfl, rfl⟩ := he3
          obtain ⟨d, _⟩ := hc3 j hlt2
          have c0 := HF.out.cell HC0.out (by simp)
          have d0 := HF.out.cell d (by simp)
          clear hc3 d
          have y0 : (0 : Int) ≤ (j : Int) := by omega
          have y1 : (j : Int) < (N : Int) := by omega
          by_cases heq : (lp S j).1 = t
          · have hm0 : metN (lp S) t j = false := by
              cases hmm : metN (lp S) t j with
              | false => rfl
              | true =>
                obtain ⟨y, hy, e⟩ := (metN_iff _ _ _).1 hmm
                have := HGS.out.ne y j (by omega) hlt2 (by rw [e, heq])
                omega
            have hm1 : metN (lp S) t (j + 1) = true := (metN_iff _ _ _).2 ⟨j, by omega, heq⟩
            have HM1 := Lib.hid hm1
            have hOO := HO.out
            rw [if_neg (by rw [hm0]; decide), List.append_nil] at hOO
            have HOO := Lib.hid hOO
            rw [heq] at d0
            clear heq hm0 hm1 hOO
            have htt : (t == t) = true := by simp
            go_wp2_with fail
            go_quiet (fail)
            have c1 : (wr.drewN nq).cell? ⟨bo, oo + i, none⟩ = some (.int .i64 t) := c0
            clear c0 d0
            have HOq := Lib.hid (show OwnF ((wr.drewN nq).alloc (.cells #[.int .i64 t] 3)) w4.heap.size 3 _ WL.length (fun j => .int .i64 (li WL j)) from (HOO.out.kept ((Fr.refl [] wr).drewN nq) (by simp)).alloc _)
            have HFq := Lib.hid ((HF.out.drewN nq).alloc (.cells #[.int .i64 t] 3))
            have hszq : w4.heap.size ≤ (wr.drewN nq).heap.size := (HF.out.drewN nq).size
            generalize wr.drewN nq = wd at *
            go_wp2_with (at_builtin; refine wpList_app rfl (.tmp 81) (.tmp 86) 30 rfl 3 infoInt Try.underlying30 rfl HOq.out rfl (rd_one _ _ _ rfl) rfl (fun _ _ => rfl) (by unfold maxLen; omega) (by omega) (by simp; omega) ?_; intro v5 w5 ho5 hf5 hn5)
            have HO5 := Lib.hid (own_snoc ho5)
            have HF5 := Lib.hid (HFq.out.trans hf5 (fun y hy => .inr (HOq.out.ge y hy)))
            clear ho5 hf5 hn5 c1
            go_roundw
            case rel => exact ⟨j + 1, by omega, by go_num, by rw [if_pos HM1.out]; exact HO5.out, HF5.out⟩
            case measure => simp [intOf]; omega
          · have hne : ((lp S j).1 == t) = false := by simpa using heq
            have HME := Lib.hid (show metN (lp S) t (j + 1) = metN (lp S) t j by simp only [metN]; rw [hne, Bool.or_false])
            clear heq
            go_wp2_with fail
            go_quiet (fail)
            go_wp2
            go_roundw
            case rel => exact ⟨j + 1, by omega, by go_num, by rw [HME.out]; exact HO.out.kept ((Fr.refl [] wr).drewN _) (by simp), HF.out.drewN _⟩
            case measure => simp [intOf]; omega
        · obtain rfl : j = N := by omega
          have HO5 := Lib.hid (show OwnF wr w4.heap.size 3 _ WL2.length (fun x => .int .i64 (li WL2 x)) by rw [HWS.out]; exact HO.out)
          go_wp2
          go_roundw
          case rel => exact ⟨i + 1, by omega, by go_num, by rw [HW2.out]; exact HO5.out, HF.out⟩
          case measure => simp [intOf]; omega
    · obtain rfl : i = n := by omega
      have HWN := Lib.hid (HWL.out 0 h0)
      have hl := ordl_len (lp S) m kf N
      have hO2 := HO.out
      rw [HWN.out, hl] at hO2
      obtain ⟨aw, cw, hvw⟩ := hO2.rd.slice
      subst hvw
      have HO2 := Lib.hid hO2.rd
      have HP2 := Lib.hid (HP.out.fr HF.out (by simp))
      have HOc := Lib.hid (HOb.out.fr HF.out (by simp))
      have HF5 := Lib.hid (HF4.out.trans HF.out (by simp))
      clear hO2 hl
      go_wp2_with fail
      refine (ints_any _ ap aw N N cp cw _ _ HP2.out HO2.out (by omega) (by omega)).mono ?_
      rintro e w6 ⟨rfl, q, rfl⟩
      rw [(eqUpTo_iff _ _ _).2 (fun j hj => by
        show ordn (lp S) m kf N j = li (ordl (lp S) m kf N) j
        unfold li
        rw [ordl_get _ _ _ _ _ hj]
        rfl)]
      have hcc : (decide (N = N) && true) = true := by simp
      rw [hcc]
      clear hcc
      have HOd := Lib.hid (HOc.out.fr ((Fr.refl [] wr).drewN q) (by simp))
      have HF6 := Lib.hid (HF5.out.drewN q)
      generalize wr.drewN q = w6 at *
      by_cases hk0 : k < 0
      · go_wp2
        go_ret
        exact ⟨rfl, HF6.out⟩
      by_cases hk1 : (i : Int) ≤ k
      · go_wp2
        go_ret
        exact ⟨rfl, HF6.out⟩
      obtain ⟨x, rfl⟩ : ∃ x : Nat, k = (x : Int) := ⟨k.toNat, by omega⟩
      have hxn : x < i := by omega
      obtain ⟨b, o, cap', he, hnc, hcm, hbw, hc⟩ := HV.out.shape (by omega)
      simp only [Value.slice.injEq, true_and] at he
      obtain ⟨rfl, rfl⟩ := he
      obtain ⟨k0, k1⟩ := hc x hxn
      have HC0 := Lib.hid k0
      have c1 := HF6.out.cell k1 (by simp)
      clear hc k0 k1
      have x0 : (0 : Int) ≤ (x : Int) := by omega
      have x1 : (x : Int) < (i : Int) := by omega
      have y0 : decide ((x : Int) < 0) = false := by simp
      have y1 : decide (i ≤ x) = false := by simp; omega
      clear hk0 hk1
      by_cases hmore : more < (p x).2
      · go_wp2
        go_ret
        exact ⟨rfl, HF6.out⟩
      have hsz := HF6.out.size
      have HE0 := Lib.hid (ownp_empty w6 29 p)
      have HRV := Lib.hid ((HV.out.fr HF6.out).fr ((Fr.refl [] w6).alloc (.cells #[] 29)))
      go_wp2_with (at_builtin; refine wpList_app2 rfl (.tmp 114) (.tmp 115) 22 rfl 29 infoNode Try.underlying22 rfl HE0.out rfl HRV.out rfl (by unfold maxLen; omega) (by omega) (by simp) ?_; intro v7 w7 ho7 hf7 hn7; rw [Nat.zero_add] at ho7; obtain ⟨g7, cap7, hv7, hg7, hrow7⟩ := ho7.row (by omega); subst hv7; have q0 := hrow7.frozen (x * 2 + 1); have q1 := (hrow7.cells x hxn).2; have HR7 := Lib.hid (hrow7.congr (q := p) (fun j hj => by simp [app2])); have HX7 := Lib.hid (((Fr.refl [] w6).alloc (.cells #[] 29)).trans hf7 (S := []) (fun y hy => .inr (by have := HE0.out.ge y hy; omega))); clear ho7 hf7 hn7 hrow7)
      have HX8 := Lib.hid (HX7.out.setCell (p := ⟨g7, x * 2 + 1, none⟩) (.inr hg7) (.int .i64 more))
      clear hg7
      have HF8 := Lib.hid (HF6.out.trans HX8.out (by simp))
      refine (order_any _ (some ⟨g7, 0, none⟩) i cap7 (fun j => if j = x then ((p x).1, more) else p j) (HR7.out.stored2 x more).rd ka m kc kf (HK.out.fr HF8.out (by simp)) HKB.out hm).mono ?_
      rintro e w9 ⟨⟨hz, v, rfl, hO9⟩ | ⟨hz, rfl⟩, hf9⟩
      case inr =>
        have HF9 := Lib.hid (HF8.out.trans hf9 (by simp))
        have e : erV (nfault (fun j => if j = x then ((p x).1, more) else p j) i) = .iface 59 (.int .i64 (nfault (fun j => if j = x then ((p x).1, more) else p j) i)) := by unfold erV; rw [if_neg hz]
        rw [e]
        clear e hz hf9
        generalize nfault (fun j => if j = x then ((p x).1, more) else p j) i = zz at *
        go_wp2
        go_ret
        exact ⟨rfl, HF9.out⟩
      have HGH := Lib.hid ((nfault_iff _ _).1 hz)
      have HHP := Lib.hid (fun (y : Nat) (hy : y < i) (h : ordn p m kf i y = (p x).1) => heavy_place m kf hxn HGD.out HGH.out (by omega) y hy h)
      obtain ⟨aq, cq, hvq⟩ := hO9.rd.slice
      subst hvq
      have HQ9 := Lib.hid hO9.rd
      have HO9 := Lib.hid (HOd.out.fr (HX8.out.trans hf9 (by simp)) (by simp))
      have HF9 := Lib.hid (HF8.out.trans hf9 (by simp))
      have HC9 := Lib.hid (HF9.out.cell HC0.out (by simp))
      obtain ⟨y0', hy0, hy1, _⟩ := srr_at HGD.out m kf x hxn
      have HYE := Lib.hid (show ∃ y, y < i ∧ ordn p m kf i y = (p x).1 from ⟨y0', hy0, by unfold ordn; rw [hy1]⟩)
      clear hz hO9 hf9 hy0 hy1 q0 q1 c1
      obtain ⟨Q, hQ⟩ : ∃ Q : Nat → Int, Q = ordn (fun j => if j = x then ((p x).1, more) else p j) m kf i := ⟨_, rfl⟩
      obtain ⟨O, hOO⟩ : ∃ O : Nat → Int, O = ordn p m kf i := ⟨_, rfl⟩
      have HHP2 := Lib.hid (show ∀ y, y < i → O y = (p x).1 → ∃ j, j ≤ y ∧ Q j = (p x).1 from fun y hy h => by
        rw [hOO] at h
        obtain ⟨j, h1, h2⟩ := HHP.out y hy h
        exact ⟨j, h1, by rw [hQ]; exact h2⟩)
      have HYE2 := Lib.hid (show ∃ y, y < i ∧ O y = (p x).1 by rw [hOO]; exact HYE.out)
      have HQr := Lib.hid (show RdF w9 (.slice aq i cq) i (fun j => .int .i64 (Q j)) by rw [hQ]; exact HQ9.out)
      have HOr := Lib.hid (show RdF w9 (.slice ao i co) i (fun j => .int .i64 (O j)) by rw [hOO]; exact HO9.out)
      clear HHP HYE HQ9 HO9 hQ hOO HOd HOc HP2 HO2 HO HWN HWL HOb HP
      obtain ⟨ID, hID⟩ : ∃ ID, (p x).1 = ID := ⟨_, rfl⟩
      rw [hID] at HC9 HHP2 HYE2
      clear hID
      go_wp2
      go_loopw [24] (fun vy wr => ∃ y : Nat, y ≤ i ∧ vy = .int .i64 y ∧ (∀ t, t < y → Q t ≠ ID ∧ O t ≠ ID) ∧ Fr [] w9 wr) (fun vy _ => i - (intOf vy).toNat)
      case atStart => exact ⟨0, by omega, rfl, fun t ht => by omega, Fr.refl _ _⟩
      case round =>
        obtain ⟨y, hy, rfl, hne, hf⟩ := hrel
        have HNE := Lib.hid hne; clear hne
        have HF := Lib.hid hf; clear hf
        by_cases hlt2 : y < i
        · obtain ⟨bq, oq, cap3, he3, _, _, _, hc3⟩ := HQr.out.shape (by omega)
          simp only [Value.slice.injEq, true_and] at he3
          obtain ⟨rfl, rfl⟩ := he3
          obtain ⟨bo, oo, cap4, he4, _, _, _, hc4⟩ := HOr.out.shape (by omega)
          simp only [Value.slice.injEq, true_and] at he4
          obtain ⟨rfl, rfl⟩ := he4
          have d0 := HF.out.cell (hc3 y hlt2) (by simp)
          have d1 := HF.out.cell (hc4 y hlt2) (by simp)
          have c0 := HF.out.cell HC9.out (by simp)
          have HD1 := Lib.hid d1
          have HCC := Lib.hid c0
          clear hc3 hc4
          have z0 : (0 : Int) ≤ (y : Int) := by omega
          have z1 : (y : Int) < (i : Int) := by omega
          by_cases hq : Q y = ID
          · rw [hq] at d0
            have hii : (ID == ID) = true := by simp
            clear hq d1 HD1
            go_wp2_with fail
            go_quiet (fail)
            go_wp2
            go_ret
            exact ⟨rfl, HF9.out.trans (HF.out.drewN _) (by simp)⟩
          · have ho : O y ≠ ID := fun e => by
              obtain ⟨j, h1, h2⟩ := HHP2.out y hlt2 e
              by_cases hj : j = y
              · subst hj; exact hq h2
              · exact (HNE.out j (by omega)).1 h2
            have hb1 : (Q y == ID) = false := by simpa using hq
            have hb2 : (O y == ID) = false := by simpa using ho
            have HN2 := Lib.hid (show ∀ t, t < y + 1 → Q t ≠ ID ∧ O t ≠ ID from fun t ht => by
              by_cases h : t = y
              · subst h; exact ⟨hq, ho⟩
              · exact HNE.out t (by omega))
            clear hq ho d1
            go_wp2_with fail
            go_quiet (fail)
            have d1 : (wr.drewN nq).cell? ⟨bo, oo + y, none⟩ = some (.int .i64 (O y)) := HD1.out
            have c1 : (wr.drewN nq).cell? ⟨b, o + x * 2, none⟩ = some (.int .i64 ID) := HCC.out
            have HFd := Lib.hid (HF.out.drewN nq)
            clear d0 c0
            generalize wr.drewN nq = wd at *
            go_wp2_with fail
            go_quiet (fail)
            go_wp2
            go_roundw
            case rel => exact ⟨y + 1, by omega, by go_num, HN2.out, HFd.out.drewN _⟩
            case measure => simp [intOf]; omega
        · obtain ⟨t, ht, e⟩ := HYE2.out
          exact absurd e (HNE.out t (by omega)).2

end Go.Proofs.Ytbaiaolgjlhioaa
