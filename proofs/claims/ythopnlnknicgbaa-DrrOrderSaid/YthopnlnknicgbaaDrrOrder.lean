/- DrrOrder: the walk. -/
import Derived.Test.YthopnlnknicgbaaOrderLaw
import Derived.Test.YthopnlnknicgbaaStepApp
namespace Go.Proofs.Ythopnlnknicgbaa
open Go.RowKit

theorem infoRow : (Try.prog.info? 22).map (fun i => (i.zero, i.size, i.bytes)) = some (some (.slice none 0 0), 1, 24) := by kernel_rfl

theorem cell_stay {w : World} {a : Addr} {v : Value} {g i : Nat} {u : Value} (h : w.cell? a = some v) (hn : a.block ≠ g) : (w.setCell ⟨g, i, none⟩ u).cell? a = some v :=
  ((Fr.refl [g] w).setCell (p := ⟨g, i, none⟩) (by simp) u).cell h (by simpa using hn)

/-- a load that is not to be taken first -/
def HLoad (t : TypeId) (x : Operand) : Op := .load t x
theorem hideLoad (t : TypeId) : Op.load t (.tmp 104) = HLoad t (.tmp 104) := rfl
attribute [local go_sem] HLoad

def Apart (p gr n : Nat) (pf : Nat → Nat) (lv : Nat → Value) (gp gg : Nat) (pvv : Nat → Value) : Prop := ∀ x, InD p gr n pf lv x → ¬ InP gp gg n pvv x

set_option maxRecDepth 100000 in
set_option maxHeartbeats 8000000 in
theorem drrOrder_any (w : World) (a0 : Option Addr) (n c0 : Nat) (sh : Nat → Int) (a1 : Option Addr) (F c1 : Nat) (fl : Nat → Int) (a2 : Option Addr) (Z c2 : Nat) (sz : Nat → Int)
    (hv : RdF w (.slice a0 n c0) n (fun j => .int .i64 (sh j))) (hfl : RdF w (.slice a1 F c1) F (fun j => .int .i64 (fl j))) (hz : RdF w (.slice a2 Z c2) Z (fun j => .int .i64 (sz j))) (hZ : Z ≤ 140737488355328) (hFm : F ≤ 140737488355328) :
    Calls Try.prog 4 #[.slice a0 n c0, .slice a1 F c1, .slice a2 Z c2] w fun e w' => e = .returned (.bool true) ∧ Fr [] w w' := by
  have HV := Lib.hid hv; clear hv
  have HL := Lib.hid hfl; clear hfl
  have HZ := Lib.hid hz; clear hz
  go_enter Try.func4, Try.ntmps4
  go_wp2_with fail
  refine (shared_any _).mono ?_
  rintro e w0 ⟨rfl, hf0⟩
  have HF0 := Lib.hid hf0; clear hf0
  go_wp2_with fail
  refine (drr_new _ a0 n c0 sh (HV.out.fr HF0.out (by simp))).mono ?_
  rintro e w1 ⟨hf1, ⟨_, hn0, hn, hsh, p, gr, c, pf, rfl, hD⟩ | ⟨_, rfl⟩⟩
  · have HF1 := Lib.hid (HF0.out.trans hf1 (S := []) (by simp)); clear hf1
    have HSH := Lib.hid hsh; clear hsh
    have hsz0 := HF0.out.size
    have hsz1 : w0.heap.size ≤ w1.heap.size := by have h1 := lt_of_blk hD.blk; have h2 := hD.low.1; omega
    have HD := Lib.hid hD; clear hD
    by_cases hF : 80 < F
    · go_wp2
      go_ret
      exact ⟨rfl, HF1.out⟩
    by_cases hFZ : Z < F
    · go_wp2
      go_ret
      exact ⟨rfl, HF1.out⟩
    have hm1 := run_mk (P := Try.prog) 36 22 infoRow Try.underlying36 n (by omega) (by unfold maxLen; omega)
    have hm2 := run_mk (P := Try.prog) 22 3 infoInt Try.underlying22 n (by omega) (by unfold maxLen; omega)
    have d1 : decide (80 < (F : Int)) = false := by simp; omega
    have d2 : decide ((Z : Int) < (F : Int)) = false := by simp; omega
    have d3 : decide (Z < F) = false := by simp; omega
    have d4 : decide (80 < F) = false := by simp; omega
    go_wp2
    clear d1 d2 d3 d4
    have hP : Puts ((w1.alloc (.cells (madeCells (Value.slice none 0 0).cells n) 22)).alloc (.cells (madeCells (Value.int .i64 0).cells n) 3)) w0.heap.size w1.heap.size (w1.heap.size + 1) n (fun _ => .slice none 0 0) (fun _ => 0) (fun _ _ => 0) (fun _ => 0) := by
      have hr := row_mk (w1.alloc (.cells (madeCells (Value.slice none 0 0).cells n) 22)) 3 (.int .i64 0) rfl n (by unfold maxLen; omega)
      rw [World.size_alloc] at hr
      exact ⟨(row_mk w1 22 (.slice none 0 0) rfl n (by unfold maxLen; omega)).kept ((Fr.refl [] _).alloc _) (by simp), fun j _ => OwnF.nil _ _ _ _, hr, fun i j x _ _ hx => by simp [Value.ownBlock] at hx, fun j _ hx => by simp [Value.ownBlock] at hx, by omega, by omega⟩
    have hap : Apart p gr n pf (fun _ => .slice none 0 0) w1.heap.size (w1.heap.size + 1) (fun _ => .slice none 0 0) := fun x hx hy => by
      have h1 := HD.out.inD_lt hx
      rcases hy with h2 | h2 | ⟨j, hj, h2⟩
      · omega
      · omega
      · simp [Value.ownBlock] at h2
    have HD2 := Lib.hid (HD.out.kept (((Fr.refl [] w1).alloc (.cells (madeCells (Value.slice none 0 0).cells n) 22)).alloc (.cells (madeCells (Value.int .i64 0).cells n) 3)) (by simp))
    have HF2 := Lib.hid ((HF1.out.alloc (.cells (madeCells (Value.slice none 0 0).cells n) 22)).alloc (.cells (madeCells (Value.int .i64 0).cells n) 3))
    have hsz2 : w0.heap.size ≤ ((w1.alloc (.cells (madeCells (Value.slice none 0 0).cells n) 22)).alloc (.cells (madeCells (Value.int .i64 0).cells n) 3)).heap.size := by simp; omega
    have HP := Lib.hid hP; clear hP
    have HA := Lib.hid hap; clear hap
    generalize hgp : w1.heap.size = gp at *
    generalize hgg : gp + 1 = gg at *
    clear hgg hm1 hm2
    go_loopw [12, 13] (fun ww i wr => ∃ (k : Nat) (s : Dst) (lv : Nat → Value) (ln : Nat → Nat) (li : Nat → Nat → Int) (pvv : Nat → Value) (pl : Nat → Nat) (pv : Nat → Nat → Int) (gt : Nat → Nat) (wt : Nat), i = .int .i64 k ∧ ww = .int .i64 wt ∧ k ≤ F + Z + 1 ∧
      Drr wr w0.heap.size p gr n c pf lv sh s ln li wt ∧ Puts wr w0.heap.size gp gg n pvv pl pv gt ∧ OrdInv n F k sh s ln li pl pv gt wt ∧ Apart p gr n pf lv gp gg pvv ∧ Fr [] w wr ∧ w0.heap.size ≤ wr.heap.size) (fun _ i _ => F + Z + 1 - (intOf i).toNat)
    case atStart =>
      refine ⟨0, _, _, _, _, _, _, _, _, 0, rfl, rfl, by omega, HD2.out, HP.out, ⟨⟨hn0, fun i hi => ⟨Int.le_refl _, fun hx => by simp at hx, fun _ => .inl rfl⟩⟩, fun _ _ => rfl, fun _ _ k hk => by omega, fun _ _ k hk => by omega, (nsum_zero n).symm, ⟨by rw [nsum_zero]; omega, by rw [nsum_zero]; omega⟩, by omega⟩, HA.out, HF2.out, hsz2⟩
    case round =>
      clear HD HP HA HF2 HD2 hsz2
      obtain ⟨k, s, lv, ln, li, pvv, pl, pv, gt, wt, rfl, rfl, hk, hD, hP, hO, hA, hf, hsz⟩ := hrel
      have HDk := Lib.hid hD; clear hD
      have HP := Lib.hid hP; clear hP
      have HO := Lib.hid hO; clear hO
      have HA := Lib.hid hA; clear hA
      have HF := Lib.hid hf; clear hf
      have hwt : wt ≤ 80 := by have := HO.out.bd; omega
      by_cases hlt : k < F + Z + 1
      · have k0 : (0 : Int) ≤ (k : Int) := by omega
        have k3 : (k : Int) < (F : Int) + (Z : Int) + 1 := by omega
        by_cases hput : k < F ∧ 0 ≤ fl k
        · obtain ⟨hkF, hfk⟩ := hput
          obtain ⟨b1, o1, d1, he1, _, _, hbw1, hc1⟩ := HL.out.shape (by omega)
          simp only [Value.slice.injEq, true_and] at he1
          obtain ⟨rfl, rfl⟩ := he1
          obtain ⟨b2, o2, d2, he2, _, _, hbw2, hc2⟩ := HZ.out.shape (by omega)
          simp only [Value.slice.injEq, true_and] at he2
          obtain ⟨rfl, rfl⟩ := he2
          have K1 := Lib.hid (hc1 k hkF)
          have K2 := Lib.hid (hc2 k (by omega))
          clear hc1 hc2
          have k1 := HF.out.cell K1.out (by simp)
          have k2 := HF.out.cell K2.out (by simp)
          have kF : (k : Int) < (F : Int) := by omega
          have kZ : (k : Int) < (Z : Int) := by omega
          by_cases hok : DRange n (fl k) (sz k)
          · unfold DRange at hok
            obtain ⟨q, hq⟩ : ∃ q : Nat, fl k = (q : Int) := ⟨(fl k).toNat, by omega⟩
            rw [hq] at hok hfk k1
            obtain ⟨_, hqn, hz1, hz2⟩ := hok
            have hqn' : q < n := by omega
            have HQ := Lib.hid hq; clear hq
            go_upto_region 14 with fail
            go_cut [86] (fun v wy => v = .bool true ∧ ∃ v4, Drr wy w0.heap.size p gr n c pf (fun j => if j = q then v4 else lv j) sh s (fun j => if j = q then ln q + 1 else ln j) (fun j => if j = q then (fun t => if t < ln q then li q t else sz k) else li j) (wt + 1) ∧
              FrP (InD p gr n pf lv) wr wy ∧ ∀ y, InD p gr n pf (fun j => if j = q then v4 else lv j) y → InD p gr n pf lv y ∨ wr.heap.size ≤ y)
            case first =>
              have HK := Lib.hid (show Drr wr.drew w0.heap.size p gr n c pf lv sh s ln li wt from HDk.out.kept ((Fr.refl [] wr).drew) (by simp))
              have hlq := HO.out.ln_le q hqn'
              have HCALL := Lib.hid (drr_put_ok _ HK.out hn hsz q (sz k) hqn' ⟨hz1, hz2⟩ (by omega) (by omega))
              go_region_with (go_at_call 16; refine (HCALL.out).mono ?_; rintro e w2 ⟨rfl, v4, hD2, hf2, hn2⟩)
              all_goals (go_wp2_with fail; go_meet)
              all_goals exact ⟨rfl, v4, hD2, (FrP.of ((Fr.refl [] wr).drew) (by simp)).trans hf2, hn2⟩
            case rest =>
              obtain ⟨rfl, v4, hD2, hf2, hn2⟩ := hcut
              have HD2 := Lib.hid hD2; clear hD2
              have HF2 := Lib.hid (hf2.fr HF.out (fun y hy => by have := HDk.out.inD_lt hy; omega))
              have hsz2 : w0.heap.size ≤ wc.heap.size := by have := hf2.size; omega
              have HP2 := Lib.hid (show Puts wc w0.heap.size gp gg n pvv pl pv gt from by
                obtain ⟨S, h1, h2⟩ := hf2
                exact HP.out.kept h1 (fun x hx hp => HA.out x (h2 x hx) hp))
              have HA2 := Lib.hid (show Apart p gr n pf (fun j => if j = q then v4 else lv j) gp gg pvv from fun x hx hp => by
                rcases hn2 x hx with h | h
                · exact HA.out x h hp
                · have := HP.out.lt hp; omega)
              have HO2 := Lib.hid (HO.out.put hkF hqn' (x := sz k) ⟨hz1, hz2⟩)
              have hpl : pl q ≤ F := by have := nsum_le pl n q hqn'; have := HO.out.tot.1; omega
              clear hf2 hn2 k1 k2
              have x1 := HF2.out.cell K1.out (by simp)
              have x2 := HF2.out.cell K2.out (by simp)
              have fq : fl k = (q : Int) := HQ.out
              rw [fq] at x1
              clear fq
              have x3 := HP2.out.row.cell q hqn'
              have hgl := HP2.out.row.lt
              have hbl1 := World.block_lt_of_cell? _ _ x1
              have hbl2 := World.block_lt_of_cell? _ _ x2
              go_upto_region 17 with fail
              go_cut [] (fun wy => ∃ v5, Puts wy w0.heap.size gp gg n (fun j => if j = q then v5 else pvv j) (fun j => if j = q then pl q + 1 else pl j) (fun j => if j = q then (fun t => if t < pl q then pv q t else sz k) else pv j) gt ∧
                FrP (InP gp gg n pvv) wc wy ∧ ∀ y, InP gp gg n (fun j => if j = q then v5 else pvv j) y → InP gp gg n pvv y ∨ wc.heap.size ≤ y)
              case first =>
                have HOW := Lib.hid (show ∀ ob, OwnF (wc.drew.alloc ob) w0.heap.size 3 (pvv q) (pl q) (fun t => .int .i64 (pv q t)) from fun ob => (HP2.out.line q hqn').kept (((Fr.refl [] wc).drew).alloc ob) (by simp))
                have hge1 : ∀ x ∈ (pvv q).ownBlock.toList, x ≠ b1 ∧ x ≠ b2 := fun x hm => by
                  have := (HP2.out.line q hqn').ge _ hm
                  omega
                have HGE := Lib.hid hge1
                clear hge1
                have hb1g : b1 ≠ gp := by omega
                have hb2g : b2 ≠ gp := by omega
                simp only [hideLoad]
                go_region_held3 (fun w' => w'.cell? ⟨b1, o1 + k, none⟩ = some (.int .i64 q) ∧ w'.cell? ⟨b2, o2 + k, none⟩ = some (.int .i64 (sz k)))
                  (first | exact ⟨hk1, hk2⟩ | exact ⟨cell_stay hk1 hb1g, cell_stay hk2 hb2g⟩ | go_keep)
                  ((refine step_app (by rfl) (.tmp 105) (.tmp 110) 22 (by rfl) 3 infoInt Try.underlying22 (by rfl) (HOW.out (.cells #[.int .i64 (sz k)] 3)) (by rfl) (rd_one wc.drew (.int .i64 (sz k)) 3 rfl) (by rfl) (fun _ _ => rfl) (by unfold maxLen; omega) (by omega) (by simp; omega) ?_; intro v5 w5 ho5 hf5 hn5; obtain ⟨av, cv, hav⟩ := ho5.rd.slice; subst hav; have hc5 := HP2.out.cell (((Fr.refl [] wc).drew).alloc _) hqn' hf5; have hk3 := hc5.1; have hfz := hc5.2; have hk1 := hf5.cell ((((Fr.refl [] wc).drew).alloc _).cell x1 (by simp)) (fun hm => (HGE.out _ hm).1 rfl); have hk2 := hf5.cell ((((Fr.refl [] wc).drew).alloc _).cell x2 (by simp)) (fun hm => (HGE.out _ hm).2 rfl)))
                all_goals (go_wp2_with fail; go_meet)
                all_goals first
                  | exact ⟨_, HP2.out.put (((Fr.refl [] wc).drew).alloc _) hqn' ho5 hf5 hn5⟩
                  | exact ⟨_, HP2.out.put (((Fr.refl [] wc).alloc _).drew) hqn' ho5 hf5 hn5⟩
              case rest =>
                obtain ⟨v5, hP5, hf5, hn5⟩ := hcut
                have HP5 := Lib.hid hP5; clear hP5
                have HF5 := Lib.hid (hf5.fr HF2.out (fun y hy => by have := HP2.out.lt hy; omega))
                have hsz5 : w0.heap.size ≤ wc.heap.size := by have := hf5.size; omega
                clear x1 x2 x3 hgl hbl1 hbl2
                have HA5 := Lib.hid (show Apart p gr n pf (fun j => if j = q then v4 else lv j) gp gg (fun j => if j = q then v5 else pvv j) from fun x hx hp => by
                  rcases hn5 x hp with h | h
                  · exact HA2.out x hx h
                  · have := HD2.out.inD_lt hx; omega)
                have HD5 := Lib.hid (show Drr wc _ _ _ _ _ _ _ _ _ _ _ _ from by
                  obtain ⟨S, h1, h2⟩ := hf5
                  exact HD2.out.keptD h1 (fun x hx hp => HA2.out x hp (h2 x hx)))
                clear hf5 hn5
                go_wp2
                go_roundw
                case rel => exact ⟨k + 1, s, _, _, _, _, _, _, gt, wt + 1, by go_num, by go_num, by omega, HD5.out, HP5.out, HO2.out, HA5.out, HF5.out, hsz5⟩
                case measure => simp [intOf]; omega
          · have HK := Lib.hid (show Drr wr.drew w0.heap.size p gr n c pf lv sh s ln li wt from HDk.out.kept ((Fr.refl [] wr).drew) (by simp))
            have HCALL := Lib.hid (drr_put_range _ HK.out hn (fl k) (sz k) hok)
            clear hok
            go_upto_region 14 with fail
            go_cut [86] (fun v wy => v = .bool false ∧ ∃ r, wy = wr.drewN r)
            case first =>
              go_region_with (go_at_call 16; refine (HCALL.out).mono ?_; rintro e w2 ⟨rfl, rfl⟩)
              all_goals (go_wp2_with fail; go_meet)
              all_goals exact ⟨rfl, 1, rfl⟩
            case rest =>
              obtain ⟨rfl, r, rfl⟩ := hcut
              go_wp2
              go_roundw
              case rel => exact ⟨k + 1, s, _, _, _, _, _, _, gt, wt, by go_num, rfl, by omega, HDk.out.kept ((Fr.refl [] wr).drewN r) (by simp), HP.out.kept ((Fr.refl [] wr).drewN r) (by simp), HO.out.skip (.inl hkF), HA.out, HF.out.drewN r, hsz⟩
              case measure => simp [intOf]; omega
        · go_upto_region 13 with fail
          go_cut [75] (fun v wy => v = .bool false ∧ wy = wr)
          case first =>
            by_cases hkF : k < F
            · obtain ⟨b1, o1, d1, he1, _, _, _, hc1⟩ := HL.out.shape (by omega)
              simp only [Value.slice.injEq, true_and] at he1
              obtain ⟨rfl, rfl⟩ := he1
              have k1 := HF.out.cell (hc1 k hkF) (by simp)
              clear hc1
              have hneg : fl k < 0 := by omega
              clear hput
              go_wp2_with fail
              go_meet
              exact ⟨by congr 1; simp; omega, rfl⟩
            · clear hput
              go_wp2_with fail
              go_meet
              exact ⟨rfl, rfl⟩
          case rest =>
            obtain ⟨rfl, rfl⟩ := hcut
            clear hput
            by_cases hw0 : wt = 0
            · subst hw0
              go_wp2_with fail
              refine (drr_next_none _ HDk.out).mono ?_
              rintro e w2 ⟨rfl, rfl⟩
              go_wp2
              go_roundw
              case rel => exact ⟨k + 1, s, _, _, _, _, _, _, gt, 0, by go_num, rfl, by omega, HDk.out, HP.out, HO.out.skip (.inr rfl), HA.out, HF.out, hsz⟩
              case measure => simp [intOf]; omega
            · obtain ⟨e0, he0, hl0⟩ := nsum_pos ln n (by have := HO.out.wt; omega)
              have HCALL := Lib.hid (drr_next _ HDk.out hn HO.out.inv HSH.out HO.out.hd (fun i hi => by have := HO.out.ln_le i hi; omega) (by omega) (by omega) e0 he0 hl0)
              clear hl0
              go_wp2_with fail
              refine Calls.mono HCALL.out ?_
              rintro e w2 ⟨s1, lv3, hr, hst, hp1, rfl, hD2, hf2, hn2⟩
              obtain ⟨hO2, hgt, hpv⟩ := HO.out.next (fun i hi => (HSH.out i hi).1) hr hst
              clear hr hst
              have HO2 := Lib.hid hO2; clear hO2
              have HD2 := Lib.hid hD2; clear hD2
              obtain ⟨P, hP⟩ : ∃ P, s1.pos = P := ⟨_, rfl⟩
              rw [hP] at hp1 hgt hpv HO2 HD2 ⊢
              clear hP
              have HF2 := Lib.hid (hf2.fr HF.out (fun y hy => by have := HDk.out.inD_lt hy; omega))
              have hsz2 : w0.heap.size ≤ w2.heap.size := by have := hf2.size; omega
              have HP2 := Lib.hid (show Puts w2 w0.heap.size gp gg n pvv pl pv gt from by
                obtain ⟨S, h1, h2⟩ := hf2
                exact HP.out.kept h1 (fun x hx hp => HA.out x (h2 x hx) hp))
              have HA2 := Lib.hid (show Apart p gr n pf lv3 gp gg pvv from fun x hx hp => HA.out x (hn2 x hx) hp)
              clear hf2 hn2
              have hpl : pl P ≤ F := by have := nsum_le pl n P hp1; have := HO.out.tot.1; omega
              obtain ⟨g, cap, e5, _, hr5⟩ := (HP2.out.line P hp1).row (by omega)
              have x1 := HP2.out.got.cell P hp1
              have f1 := HP2.out.got.frozen P
              have x2 := HP2.out.row.cell P hp1
              rw [e5] at x2
              have x3 := hr5.cell (gt P) hgt
              rw [hpv] at x3
              clear e5 hr5 hpv
              have p0 : (0 : Int) ≤ (P : Int) := by omega
              have p3 : (P : Int) < (n : Int) := by omega
              have n1 : decide ((P : Int) < 0) = false := by simp
              have n2 : decide (n ≤ P) = false := by simp; omega
              have n3 : decide (pl P ≤ gt P) = false := by simp; omega
              have n4 : decide (0 < wt) = true := by simp; omega
              have n5 : ((gt P : Int)) < (pl P : Int) := by omega
              go_wp2_with fail
              go_quiet (fail)
              have hinc := (HP2.out.kept ((Fr.refl [] _).drewN nq) (by simp)).inc P
              have HPI := Lib.hid hinc.1
              have HFI := Lib.hid (hinc.2.fr (HF2.out.drewN nq) (fun y hy => by have := HP2.out.lt hy; omega))
              have HDI := Lib.hid (show Drr _ _ _ _ _ _ _ _ _ _ _ _ _ from by
                obtain ⟨S, h1, h2⟩ := hinc.2
                exact (HD2.out.kept ((Fr.refl [] _).drewN nq) (by simp)).keptD h1 (fun x hx hp => HA2.out x hp (h2 x hx)))
              have hcast : ((wt : Int) - 1) = ((wt - 1 : Nat) : Int) := by omega
              have HCA := Lib.hid hcast
              clear hinc x2 x3 n1 n2 n3 n4 n5 hcast
              go_wp2
              go_roundw
              case rel => exact ⟨k + 1, _, _, _, _, _, _, _, _, wt - 1, by go_num, by rw [HCA.out], by omega, HDI.out, HPI.out, HO2.out, HA2.out, HFI.out, by simpa using hsz2⟩
              case measure => simp [intOf]; omega
      · obtain rfl : k = F + Z + 1 := by omega
        have hw0 : wt = 0 := by have := HO.out.bd; omega
        subst hw0
        go_wp2
        go_ret
        exact ⟨rfl, HF.out⟩
  · have HF1 := Lib.hid (HF0.out.trans hf1 (S := []) (by simp)); clear hf1
    go_wp2
    go_ret
    exact ⟨rfl, HF1.out⟩

end Go.Proofs.Ythopnlnknicgbaa
