/- rend.Order, rend.Pick. -/
import Derived.Test.YtbaiaolgjlhioaaDoorRendCmp
import Derived.Test.YtbaiaolgjlhioaaDoorRendScore
import Derived.Test.YtbaiaolgjlhioaaDoorNodesCheck
import Derived.Test.YtbaiaolgjlhioaaDoorSom
import Derived.Deep.RegionHeld3
namespace Go.Proofs.YtbaiaolgjlhioaaDoor
open Go.RowKit Go.Sort

theorem infoScored : (Tryd.prog.info? 49).map (fun i => (i.zero, i.size, i.bytes)) = some (some (.agg #[.int .i64 0, .int .i64 0]), 2, 16) := by kernel_rfl

/-- the numbers in their order -/
def ordn (p : Nat → Int × Int) (m : Nat) (kf : Nat → Int) (n : Nat) (j : Nat) : Int := (lp (srr (scs p m kf n)) j).2

def OrderAt (w : World) (p : Nat → Int × Int) (n m : Nat) (kf : Nat → Int) (e : Ending) (w' : World) : Prop :=
  (nfault p n = 0 ∧ (∃ v, e = .returned (.tuple #[v, .nilIface]) ∧ OwnF w' w.heap.size 3 v n (fun j => .int .i64 (ordn p m kf n j))) ∨ nfault p n ≠ 0 ∧ e = .returned (.tuple #[.slice none 0 0, erV (nfault p n)])) ∧ Fr [] w w'

set_option maxHeartbeats 4000000 in
set_option maxRecDepth 100000 in
theorem order_any (w : World) (a : Option Addr) (n c : Nat) (p : Nat → Int × Int) (hv : RdP w (.slice a n c) n p) (ka : Option Addr) (m kc : Nat) (kf : Nat → Int) (hk : RdF w (.slice ka m kc) m (fun j => .int .u8 (kf j))) (hb : ∀ j, j < m → 0 ≤ kf j ∧ kf j ≤ 255) (hm : m ≤ 140737488351232) :
    Calls Tryd.prog 8 #[.slice a n c, .slice ka m kc] w (OrderAt w p n m kf) := by
  have HV := Lib.hid hv; clear hv
  have HK := Lib.hid hk; clear hk
  have HB := Lib.hid hb; clear hb
  go_enter Tryd.func8, Tryd.ntmps8
  go_wp2_with fail
  refine (check_any _ a n c p HV.out).mono ?_
  rintro e w1 ⟨rfl, hf1⟩
  by_cases hg : nfault p n = 0
  case neg =>
    have e : erV (nfault p n) = .iface 26 (.int .i64 (nfault p n)) := by unfold erV; rw [if_neg hg]
    have HE := Lib.hid e
    rw [e]
    have HZ := Lib.hid hg
    clear hg e
    go_wp2
    go_ret2
    exact ⟨.inr ⟨HZ.out, by rw [HE.out]; rfl⟩, hf1⟩
  have HG := Lib.hid ((nfault_iff p n).1 hg)
  rw [hg]
  rw [show erV 0 = .nilIface from rfl]
  have HZ := Lib.hid hg; clear hg
  have HF1 := Lib.hid hf1; clear hf1
  have h40 := HG.out.n40
  have hn0 := HG.out.n0
  go_wp2
  go_loopw [7, 20] (fun v vi wr => ∃ i : Nat, i ≤ n ∧ vi = .int .i64 i ∧ OwnP wr w.heap.size 49 v (scs p m kf i).length (lp (scs p m kf i)) ∧ Fr [] w wr) (fun _ vi _ => n - (intOf vi).toNat)
  case atStart => exact ⟨0, by omega, rfl, OwnP.nil _ _ _ _, HF1.out⟩
  case round =>
    clear HF1
    obtain ⟨i, hi, rfl, hO, hf⟩ := hrel
    have HO := Lib.hid hO; clear hO
    have HF := Lib.hid hf; clear hf
    by_cases hlt : i < n
    · obtain ⟨b, o, cap', he, hnc, hcm, hbw, hc⟩ := HV.out.shape (by omega)
      simp only [Value.slice.injEq, true_and] at he
      obtain ⟨rfl, rfl⟩ := he
      obtain ⟨k0, k1⟩ := hc i hlt
      have c0 := HF.out.cell k0 (by simp)
      have c1 := HF.out.cell k1 (by simp)
      clear hc k0 k1
      obtain ⟨r1, r2, r3, r4⟩ := HG.out.rng i hlt
      have hsc := scs_succ p m kf i
      have hsl := scs_len p m kf i
      have e2 : (sco (p i) m kf, (p i).1) = (sco ((p i).1, (p i).2) m kf, (p i).1) := rfl
      rw [e2] at hsc
      clear e2
      obtain ⟨id, hid⟩ : ∃ id : Int, (p i).1 = id := ⟨_, rfl⟩
      obtain ⟨wt, hwt⟩ : ∃ wt : Int, (p i).2 = wt := ⟨_, rfl⟩
      rw [hid, hwt] at hsc
      rw [hid] at c0 r1 r2
      rw [hwt] at c1 r3 r4
      clear hid hwt
      have HSC := Lib.hid hsc; clear hsc
      have HF2 := Lib.hid (HF.out.alloc (.cells #[.int .i64 id, .int .i64 wt] 24))
      have HO2 := Lib.hid (HO.out.kept ((Fr.refl [] wr).alloc (.cells #[.int .i64 id, .int .i64 wt] 24)) (by simp))
      have HBL := Lib.hid (heap_alloc_new wr (.cells #[.int .i64 id, .int .i64 wt] 24))
      have hbt : w.heap.size ≤ wr.heap.size := HF.out.size
      go_upto_region 8 with fail
      clear c0 c1
      generalize wr.alloc (.cells #[.int .i64 id, .int .i64 wt] 24) = w2 at *
      generalize wr.heap.size = bt at *
      have g0 := blk_cell (v := .int .i64 id) HBL.out 0 rfl
      have g1 := blk_cell (v := .int .i64 wt) HBL.out 1 rfl
      have HKC := Lib.hid (fun (w' : World) (h : Fr [] w2 w') => (⟨h.cell g0 (by simp), h.cell g1 (by simp)⟩ : w'.cell? ⟨bt, 0, none⟩ = some (.int .i64 id) ∧ w'.cell? ⟨bt, 1, none⟩ = some (.int .i64 wt)))
      have HOW := Lib.hid (fun (w' : World) (h : Fr [] w2 w') => HO2.out.kept h (by simp))
      have HNB := Lib.hid (HO2.out.apart HBL.out (by decide))
      have HK9 := Lib.hid (fun (w' w9 : World) (h : Fr [] w2 w') (h9 : Fr _ w' w9) => (⟨h9.cell (HKC.out _ h).1 HNB.out, h9.cell (HKC.out _ h).2 HNB.out⟩ : w9.cell? ⟨bt, 0, none⟩ = some (.int .i64 id) ∧ w9.cell? ⟨bt, 1, none⟩ = some (.int .i64 wt)))
      have HKK := Lib.hid (HK.out.fr (HF2.out.drew) (by simp))
      have HSCO := Lib.hid (fun (w' : World) (h : RdF w' (.slice ka m kc) m (fun j => .int .u8 (kf j))) => score_any w' id wt (by omega) (by omega) ka m kc kf h HB.out hm)
      have hl1 : (scs p m kf i).length + 1 ≤ maxLen := by rw [hsl]; unfold maxLen; omega
      have hl2 : ((scs p m kf i).length + 1) * 16 ≤ 140737488355328 := by rw [hsl]; omega
      have HSL := Lib.hid hsl; clear hsl
      have hsz2 := HF2.out.size
      generalize sco (id, wt) m kf = sc at *
      go_region_held3 (fun w' => w'.cell? ⟨bt, 0, none⟩ = some (.int .i64 id) ∧ w'.cell? ⟨bt, 1, none⟩ = some (.int .i64 wt))
        (first | exact HKC.out _ ((Fr.refl [] w2).drew) | exact HKC.out _ HF5.out | exact HKC.out _ (HF5.out.alloc _) | exact HK9.out _ _ (HF5.out.alloc _) hf9)
        (first
          | (go_at_call 12; refine (HSCO.out _ HKK.out).mono ?_; rintro e w5 ⟨rfl, hf5⟩; have HF5 := Lib.hid (((Fr.refl [] w2).drew).trans hf5 (S := []) (by simp)))
          | (refine step_app2 (n := (scs p m kf i).length) (base := w.heap.size) (p := lp (scs p m kf i)) (m := 1) (q := fun _ => (sc, id)) ?_ (.tmp 24) (.tmp 31) 47 ?_ 49 infoScored Tryd.underlying47 ?_ (HOW.out _ (HF5.out.alloc _)) ?_ (rdp_one w5 sc id 49 rfl) ?_ ?_ ?_ ?_ ?_; rfl; rfl; rfl; rfl; rfl; exact hl1; exact hl2; exact (Nat.le_trans hsz2 (HF5.out.alloc _).size); intro v9 w9 ho9 hf9 hn9))
      have HO9 := Lib.hid (show OwnP w9 w.heap.size 49 v9 (scs p m kf (i + 1)).length (lp (scs p m kf (i + 1))) by
        rw [HSC.out]
        exact app2_one _ _ _ _ _ _ ho9)
      have HF9 := Lib.hid ((HF2.out.trans (HF5.out.alloc _) (by simp)).trans hf9 (fun x hx => .inr (HO2.out.ge x hx)))
      clear ho9 hf9 hn9 hf5 g0 g1 HKC HK9 HOW HSCO HKK HNB
      go_wp2
      go_roundw
      case rel => exact ⟨i + 1, by omega, by go_num, HO9.out, HF9.out⟩
      case measure => simp [intOf]; omega
    · obtain rfl : i = n := by omega
      have hl := scs_len p m kf i
      go_wp2_with fail
      refine (sort_rend _ _ _ _ HO.out (by omega)).mono ?_
      rintro e w5 ⟨rfl, ho5, hf5⟩
      have HF5 := Lib.hid (HF.out.trans hf5 (fun x hx => .inr (HO.out.ge x hx)))
      have hsl : (srr (scs p m kf i)).length = i := by rw [srr_len, hl]
      rw [hsl] at ho5
      obtain ⟨g, cap, rfl, hge, hrow⟩ := ho5.row (by omega)
      have HR := Lib.hid hrow
      clear ho5 hf5 hl hsl hrow HO HF
      have HOD := Lib.hid (show ∀ j, ordn p m kf i j = (lp (srr (scs p m kf i)) j).2 from fun j => rfl)
      generalize srr (scs p m kf i) = S at *
      go_wp2
      go_loopw [10, 38] (fun v vj wr => ∃ j : Nat, j ≤ i ∧ vj = .int .i64 j ∧ OwnF wr w.heap.size 3 v j (fun t => .int .i64 (lp S t).2) ∧ RowP wr g 49 i cap (lp S) ∧ Fr [] w wr) (fun _ vj _ => i - (intOf vj).toNat)
      case atStart => exact ⟨0, by omega, rfl, OwnF.nil _ _ _ _, HR.out, HF5.out⟩
      case round =>
        clear HR HF5
        obtain ⟨j, hj, rfl, hO, hR, hf⟩ := hrel
        have HO := Lib.hid hO; clear hO
        have HR := Lib.hid hR
        have HF := Lib.hid hf; clear hf
        by_cases hlt2 : j < i
        · obtain ⟨c0, c1⟩ := hR.cells j hlt2
          clear hR
          have hsz := HF.out.size
          have HO2 := Lib.hid ((HO.out.alloc (.cells #[.int .i64 (lp S j).1, .int .i64 (lp S j).2] 49)).alloc (.cells #[.int .i64 (lp S j).2] 3))
          have HR2 := Lib.hid (HR.out.kept (((Fr.refl [] wr).alloc (.cells #[.int .i64 (lp S j).1, .int .i64 (lp S j).2] 49)).alloc (.cells #[.int .i64 (lp S j).2] 3)) (by simp))
          have HF2 := Lib.hid ((HF.out.alloc (.cells #[.int .i64 (lp S j).1, .int .i64 (lp S j).2] 49)).alloc (.cells #[.int .i64 (lp S j).2] 3))
          go_wp2_with (at_builtin; refine wpList_app rfl (.tmp 42) (.tmp 45) 28 rfl 3 infoInt Tryd.underlying28 rfl HO2.out rfl (rd_one _ _ _ (by simp)) rfl (fun _ _ => rfl) (by unfold maxLen; omega) (by omega) (by simp; omega) ?_; intro v4 w4 ho4 hf4 hn4)
          have HO4 := Lib.hid (show OwnF w4 w.heap.size 3 v4 (j + 1) (fun t => .int .i64 (lp S t).2) from ho4.congr (fun t ht => by
            unfold app
            by_cases h : t < j
            · rw [if_pos h]
            · rw [if_neg h, show t = j by omega]))
          have HR4 := Lib.hid (HR2.out.kept hf4 (fun hm2 => by
            obtain ⟨cur, hc1, _⟩ := HR2.out
            rcases HO2.out with ⟨e1, _⟩ | ⟨g2, cp2, e1, _, cur2, hc2, _⟩
            · rw [e1] at hm2; simp [Value.ownBlock] at hm2
            · rw [e1] at hm2
              simp only [Value.ownBlock, Option.toList, List.mem_singleton] at hm2
              subst hm2
              rw [hc1] at hc2
              simp only [Option.some.injEq, Obj.cells.injEq] at hc2
              exact absurd hc2.2.1 (by decide)))
          have HF4 := Lib.hid (HF2.out.trans hf4 (fun x hx => .inr (HO2.out.ge x hx)))
          clear ho4 hf4 hn4
          go_roundw
          case rel => exact ⟨j + 1, by omega, by go_num, HO4.out, HR4.out, HF4.out⟩
          case measure => simp [intOf]; omega
        · obtain rfl : j = i := by omega
          clear hR
          have HOF := Lib.hid (HO.out.congr (f' := fun t => .int .i64 (ordn p m kf j t)) (fun t _ => by rw [HOD.out t]))
          go_wp2
          go_ret2
          exact ⟨.inl ⟨HZ.out, _, rfl, HOF.out⟩, HF.out⟩

/-- what Pick tells -/
def RPickTo (w : World) (p : Nat → Int × Int) (n m : Nat) (kf : Nat → Int) (e : Ending) (w' : World) : Prop :=
  (nfault p n = 0 ∧ e = .returned (.tuple #[.int .i64 (ordn p m kf n 0), .nilIface]) ∨ nfault p n ≠ 0 ∧ e = .returned (.tuple #[.int .i64 0, erV (nfault p n)])) ∧ Fr [] w w'

set_option maxHeartbeats 4000000 in
theorem rpick_any (w : World) (a : Option Addr) (n c : Nat) (p : Nat → Int × Int) (hv : RdP w (.slice a n c) n p) (ka : Option Addr) (m kc : Nat) (kf : Nat → Int) (hk : RdF w (.slice ka m kc) m (fun j => .int .u8 (kf j))) (hb : ∀ j, j < m → 0 ≤ kf j ∧ kf j ≤ 255) (hm : m ≤ 140737488351232) :
    Calls Tryd.prog 11 #[.slice a n c, .slice ka m kc] w (RPickTo w p n m kf) := by
  have HC := Lib.hid (order_any w a n c p hv ka m kc kf hk hb hm)
  clear hv hk hb
  go_enter Tryd.func11, Tryd.ntmps11
  go_wp2_with fail
  refine HC.out.mono ?_
  rintro e w1 ⟨⟨hz, v, rfl, hO⟩ | ⟨hz, rfl⟩, hf⟩
  · have hgd := (nfault_iff p n).1 hz
    obtain ⟨g, cap, rfl, hge, hrow⟩ := hO.row hgd.n0
    have c0 := hrow.cell 0 hgd.n0
    have h0 : (0 : Int) < (n : Int) := by have := hgd.n0; omega
    have h00 : 0 < n := hgd.n0
    have HZ := Lib.hid hz
    have HF := Lib.hid hf
    clear hz hO hrow hf hgd
    obtain ⟨r, hr⟩ : ∃ r, ordn p m kf n 0 = r := ⟨_, rfl⟩
    rw [hr] at c0
    have HR := Lib.hid hr
    clear hr
    go_wp2
    go_ret2
    exact ⟨.inl ⟨HZ.out, by rw [HR.out]; rfl⟩, HF.out⟩
  · have e : erV (nfault p n) = .iface 26 (.int .i64 (nfault p n)) := by unfold erV; rw [if_neg hz]
    have HE := Lib.hid e
    rw [e]
    have HZ := Lib.hid hz
    have HF := Lib.hid hf
    clear hz e hf
    go_wp2
    go_ret2
    exact ⟨.inr ⟨HZ.out, by rw [HE.out]; rfl⟩, HF.out⟩

end Go.Proofs.YtbaiaolgjlhioaaDoor
