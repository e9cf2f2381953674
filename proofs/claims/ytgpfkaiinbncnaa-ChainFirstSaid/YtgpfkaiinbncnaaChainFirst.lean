/- ChainFirst, walked (printed by wip/bin/chainfirst.py). -/
import Derived.Test.YtgpfkaiinbncnaaChainAll
namespace Go.Proofs.Ytgpfkaiinbncnaa
open Go.RowKit

abbrev bW (W : World) (r : Rl) (q : Qt) : World := (W.alloc (.cells #[.slice r.a r.n r.c, .int .i64 r.act] 61)).alloc (.cells #[.slice q.na q.nl q.nc, .int .i64 q.ty, .int .i64 q.cl, .int .i64 q.opc, .bool q.rd, .slice q.fa q.fl q.fc] 64)

theorem bW_q {W wr : World} {r : Rl} {q : Qt} (h : Fr [] (bW W r q) wr) : (wr.cell? ⟨W.heap.size + 1, 0, none⟩ = some (.slice q.na q.nl q.nc)) ∧ (wr.cell? ⟨W.heap.size + 1, 1, none⟩ = some (.int .i64 q.ty)) ∧ (wr.cell? ⟨W.heap.size + 1, 2, none⟩ = some (.int .i64 q.cl)) ∧ (wr.cell? ⟨W.heap.size + 1, 3, none⟩ = some (.int .i64 q.opc)) ∧ (wr.cell? ⟨W.heap.size + 1, 4, none⟩ = some (.bool q.rd)) ∧ (wr.cell? ⟨W.heap.size + 1, 5, none⟩ = some (.slice q.fa q.fl q.fc)) := by
  have := qbox (w := W.alloc (.cells #[.slice r.a r.n r.c, .int .i64 r.act] 61)) q h
  simpa using this
theorem bW_r {W wr : World} {r : Rl} {q : Qt} (h : Fr [] (bW W r q) wr) : (wr.cell? ⟨W.heap.size, 0, none⟩ = some (.slice r.a r.n r.c)) ∧ (wr.cell? ⟨W.heap.size, 1, none⟩ = some (.int .i64 r.act)) :=
  rbox r (((Fr.refl [] _).alloc _).trans h (by simp))
theorem bW_qr {W wr : World} {r : Rl} {q : Qt} (h : Fr [] (bW W r q) wr) : (wr.cell? ⟨W.heap.size + 1, 0, none⟩ = some (.slice q.na q.nl q.nc)) ∧ (wr.cell? ⟨W.heap.size + 1, 1, none⟩ = some (.int .i64 q.ty)) ∧ (wr.cell? ⟨W.heap.size + 1, 2, none⟩ = some (.int .i64 q.cl)) ∧ (wr.cell? ⟨W.heap.size + 1, 3, none⟩ = some (.int .i64 q.opc)) ∧ (wr.cell? ⟨W.heap.size + 1, 4, none⟩ = some (.bool q.rd)) ∧ (wr.cell? ⟨W.heap.size + 1, 5, none⟩ = some (.slice q.fa q.fl q.fc)) ∧ (wr.cell? ⟨W.heap.size, 0, none⟩ = some (.slice r.a r.n r.c)) ∧ (wr.cell? ⟨W.heap.size, 1, none⟩ = some (.int .i64 r.act)) := by
  obtain ⟨y0, y1, y2, y3, y4, y5⟩ := bW_q h
  exact ⟨y0, y1, y2, y3, y4, y5, bW_r h⟩
theorem bW_f {W wr : World} {r : Rl} {q : Qt} (h : Fr [] (bW W r q) wr) : Fr [] W wr := (((Fr.refl [] W).alloc _).alloc _).trans h (by simp)
theorem bW_s {W wr : World} {r : Rl} {q : Qt} (h : Fr [] (bW W r q) wr) : W.heap.size + 1 < wr.heap.size := by have := h.size; simp [bW] at this; omega

set_option maxHeartbeats 16000000 in
set_option maxRecDepth 100000 in
theorem chainFirst_any (W : World) (a0 : Option Addr) (n0 c0 : Nat) (R : Nat → Rl) (h0 : Rls W a0 n0 c0 R) (a1 : Option Addr) (n1 c1 : Nat) (S : Nat → Rl) (h1 : Rls W a1 n1 c1 S) (r : Rl) (hr : r.Ok W) (q : Qt) (hq : q.Ok W) (hs1 : n1 * 32 ≤ 140737488351232) :
    Calls Try.prog 9 #[.slice a0 n0 c0, .slice a1 n1 c1, .agg #[.slice r.a r.n r.c, .int .i64 r.act], q.agg] W fun e w' => e = .returned (.bool true) ∧ Fr [] W w' := by
  have H0 := Lib.hid h0; clear h0
  have H1 := Lib.hid h1; clear h1
  have HR := Lib.hid hr; clear hr
  have HQ := Lib.hid hq; clear hq
  have HCF := Lib.hid (fun w (hf : Fr [] W w) => first_all H0.out HQ.out w hf)
  have HS1 := Lib.hid hs1; clear hs1
  unfold Qt.agg
  go_enter Try.func9, Try.ntmps9
  have HB := Lib.hid (Fr.refl [] (bW W r q))
  by_cases hz : chZ R n0 = 0
  case neg =>
    rw [show erVn (chZ R n0) = .iface 71 (.int .i64 (chZ R n0)) from erV1 hz] at HCF
    clear hz
    generalize chZ R n0 = z at *
    generalize fiI R q n0 = I at *
    go_wp2_with (first
      | (go_at_call 28; refine (chained_any _).mono ?_; rintro e w1 ⟨rfl, hf1⟩; have HF1 := Lib.hid (HB.out.trans hf1 (by simp)); obtain ⟨x0, x1, x2, x3, x4, x5⟩ := bW_q HF1.out; clear hf1)
      | (go_at_call 29; refine (HCF.out _ (bW_f HF1.out)).mono ?_; rintro e w2 ⟨rfl, hf2⟩))
    go_ret
    exact ⟨rfl, (bW_f HF1.out).trans hf2 (by simp)⟩
  case pos =>
    have HZ := Lib.hid hz
    have hn0 := (chZ_zero.1 hz).1
    rw [show erVn (chZ R n0) = .nilIface from erV0 hz] at HCF
    clear hz
    have HLOOP := Lib.hid (fun k (hk : k < n0) => fi_loop (q := q) HZ.out hk)
    have HHO := Lib.hid (fun k (hk : k < n0) w (hf : Fr [] W w) => holds_all (H0.out.ok k hk) HQ.out w hf)
    have HHN := Lib.hid (fun k (hk : k < n0) => erV0 ((chZ_zero.1 HZ.out).2 k hk))
    obtain ⟨I, hI⟩ : ∃ I, fiI R q n0 = I := ⟨_, rfl⟩
    rw [hI] at HCF HLOOP
    have HI := Lib.hid hI; clear hI
    go_wp2_with (first
      | (go_at_call 28; refine (chained_any _).mono ?_; rintro e w1 ⟨rfl, hf1⟩; have HF1 := Lib.hid (HB.out.trans hf1 (by simp)); obtain ⟨x0, x1, x2, x3, x4, x5⟩ := bW_q HF1.out; clear hf1)
      | (go_at_call 29; refine (HCF.out _ (bW_f HF1.out)).mono ?_; rintro e w2 ⟨rfl, hf2⟩; have HF2 := Lib.hid (HF1.out.trans hf2 (by simp)); clear hf2 x0 x1 x2 x3 x4 x5 HF1))
    go_loopw [12] (fun vi wr => ∃ k : Nat, k ≤ n0 ∧ vi = .int .i64 k ∧ Fr [] (bW W r q) wr) (fun vi _ => n0 - (intOf vi).toNat)
    case atStart => exact ⟨0, by omega, rfl, HF2.out⟩
    case round =>
      clear HF2
      obtain ⟨k, hk, rfl, hfr⟩ := hrel
      have HFR := Lib.hid hfr; clear hfr
      obtain ⟨x0, x1, x2, x3, x4, x5⟩ := bW_q HFR.out
      by_cases hlt : k < n0
      · obtain ⟨bb, oo, cc, he, _, _, _, hcell⟩ := (H0.out.fr (bW_f HFR.out)).rd.shape (by omega) (by decide)
        simp only [Value.slice.injEq, true_and] at he
        obtain ⟨rfl, rfl⟩ := he
        have c0' : wr.cell? ⟨bb, oo + k * 2, none⟩ = some (.slice (R k).a (R k).n (R k).c) := hcell k 0 hlt (by decide)
        clear hcell
        have k0 : (0 : Int) ≤ (k : Int) := by omega
        have k1 : (k : Int) < (n0 : Int) := by omega
        have HC2 := Lib.hid (fun w hf => HHO.out k hlt w hf)
        rw [HHN.out k hlt] at HC2
        obtain ⟨l1, l2⟩ := HLOOP.out k hlt
        have HL1 := Lib.hid l1
        have HL2 := Lib.hid l2
        clear l1 l2
        generalize rhB (R k) q = b at *
        go_upto_region 10 with fail
        go_cut [13, 14] (fun b' e' wx => b' = .bool b ∧ e' = .nilIface ∧ Fr [] (bW W r q) wx)
        case first =>
          have HFD := Lib.hid (show Fr [] (bW W r q) wr.drew from HFR.out.drew)
          go_region_held3 (fun w4 => (w4.cell? ⟨W.heap.size + 1, 0, none⟩ = some (.slice q.na q.nl q.nc)) ∧ (w4.cell? ⟨W.heap.size + 1, 1, none⟩ = some (.int .i64 q.ty)) ∧ (w4.cell? ⟨W.heap.size + 1, 2, none⟩ = some (.int .i64 q.cl)) ∧ (w4.cell? ⟨W.heap.size + 1, 3, none⟩ = some (.int .i64 q.opc)) ∧ (w4.cell? ⟨W.heap.size + 1, 4, none⟩ = some (.bool q.rd)) ∧ (w4.cell? ⟨W.heap.size + 1, 5, none⟩ = some (.slice q.fa q.fl q.fc)) ∧ (w4.cell? ⟨bb, oo + k * 2, none⟩ = some (.slice (R k).a (R k).n (R k).c)))
            (first | exact ⟨x0, x1, x2, x3, x4, x5, c0'⟩ | (obtain ⟨y0, y1, y2, y3, y4, y5⟩ := bW_q HX.out; exact ⟨y0, y1, y2, y3, y4, y5, HC0.out⟩) | fail)
            (first
              | (go_at_call 30; (with_reducible refine (HC2.out _ (bW_f HFD.out)).mono ?_); rintro e wx ⟨rfl, hfx⟩; have HX := Lib.hid (HFD.out.trans hfx (by simp)); have HC0 := Lib.hid (hfx.cell (p := ⟨bb, oo + k * 2, none⟩) (v := .slice (R k).a (R k).n (R k).c) c0' (by simp)))
              | fail)
          all_goals (go_wp2_with fail; go_meet)
          all_goals exact ⟨rfl, rfl, HX.out⟩
        case rest =>
          obtain ⟨rfl, rfl, hfc⟩ := hcut
          have HFC := Lib.hid hfc
          clear hfc x0 x1 x2 x3 x4 x5 c0'
          cases b
          · have hne := HL2.out rfl
            have hne2 : ((k : Int) == I) = false := by simpa using hne
            clear hne
            go_wp2
            go_roundw
            case rel => exact ⟨k + 1, by omega, by go_num, HFC.out⟩
            case measure => simp [intOf]; omega
          · obtain ⟨g1, g2⟩ := HL1.out rfl
            have d1 : decide (I < 0) = false := by simpa using g1
            have d2 : decide ((k : Int) < I) = false := by simpa using g2
            have g3 : 0 ≤ I := by omega
            by_cases hki : (k : Int) = I
            · have d3 : ((k : Int) == I) = true := by simpa using hki
              clear g1 g2 hki
              go_wp2
              go_roundw
              case rel => exact ⟨k + 1, by omega, by go_num, HFC.out⟩
              case measure => simp [intOf]; omega
            · have d3 : ((k : Int) == I) = false := by simpa using hki
              clear g1 g2 hki
              go_wp2
              go_roundw
              case rel => exact ⟨k + 1, by omega, by go_num, HFC.out⟩
              case measure => simp [intOf]; omega
      · obtain rfl : k = n0 := by omega
        clear hlt
        go_upto_region 13 with fail
        have HK50 := Lib.hid hn0
        have HCJ := Lib.hid (fun (w : World) (B : Nat) (a : Option Addr) (c : Nat) (hf : Fr [] W w) (ho : OwnC w B 61 (.slice a (k + n1) c) 2 (k + n1) (appC k (fun j => (R j).F) (fun j => (S j).F))) => first_all (rls_app (fun j hj => (H0.out.ok j hj).fr hf) (fun j hj => (H1.out.ok j hj).fr hf) ho) (HQ.out.fr hf) w (Fr.refl _ _))
        have HAPP := Lib.hid (fun h2 h3 => fi_app (R := R) (S := S) (q := q) (n := k) (m := n1) HZ.out h2 h3)
        rw [HI.out] at HAPP
        have HCC := Lib.hid (show chZ (appR k R S) (k + n1) = 0 ∨ chZ (appR k R S) (k + n1) ≠ 0 from Decidable.em _)
        generalize fiI (appR k R S) q (k + n1) = J at *
        generalize chZ (appR k R S) (k + n1) = Z1 at *
        have HONE0 := Lib.hid (fun (m j : Nat) (_ : j < m) => rl_one R j)
        have HONE1 := Lib.hid (fun (m j : Nat) (_ : j < m) => rl_one S j)
        go_cut [15, 16] (fun j e wx => j = .int .i64 J ∧ e = erVn Z1 ∧ Fr [] (bW W r q) wx)
        case first =>
          obtain ⟨E1, hE1⟩ : ∃ E1, erVn Z1 = E1 := ⟨_, rfl⟩
          rw [hE1] at HCJ
          have HE1 := Lib.hid hE1; clear hE1
          have HFD := Lib.hid (show Fr [] (bW W r q) wr.drew from HFR.out.drew)
          have HFA := Lib.hid (show Fr [] (bW W r q) (wr.alloc (.cells #[] 61)).drew from (HFR.out.alloc _).drew)
          have HO0 := Lib.hid ((rowc_made (w := wr) (E := 61) (s := 2) (F := fun j => (R j).F)).fr ((Fr.refl [] _).drew))
          have hbs := HFR.out.size
          go_region_held3 (fun w4 => (w4.cell? ⟨W.heap.size + 1, 0, none⟩ = some (.slice q.na q.nl q.nc)) ∧ (w4.cell? ⟨W.heap.size + 1, 1, none⟩ = some (.int .i64 q.ty)) ∧ (w4.cell? ⟨W.heap.size + 1, 2, none⟩ = some (.int .i64 q.cl)) ∧ (w4.cell? ⟨W.heap.size + 1, 3, none⟩ = some (.int .i64 q.opc)) ∧ (w4.cell? ⟨W.heap.size + 1, 4, none⟩ = some (.bool q.rd)) ∧ (w4.cell? ⟨W.heap.size + 1, 5, none⟩ = some (.slice q.fa q.fl q.fc)))
            (first | exact bW_q HFD.out | exact bW_q HFA.out | exact bW_q HF5.out | exact bW_q HF6.out | exact bW_q HX.out | fail)
            (first
              | (refine step_appC ?_ (.tmp 71) (.tmp 72) 58 ?_ 61 infoRule Try.underlying58 ?_ ?_ (HONE0.out _) HO0.out ?_ (H0.out.fr (bW_f HFA.out)).rd ?_ ?_ ?_ ?_ ?_; rfl; rfl; rfl; decide; rfl; rfl; (unfold maxLen; omega); omega; (simp); intro v5 w5 ho5 hf5 hn5; obtain ⟨a5, c5, rfl⟩ := ho5.rd.slice; have HO5 := Lib.hid (show OwnC w5 wr.heap.size 61 (.slice a5 k c5) 2 k (fun j => (R j).F) from by { rw [Nat.zero_add] at ho5; exact ho5.congr (by decide) (fun i c _ _ => rfl) }); have HF5 := Lib.hid (show Fr [] (bW W r q) w5 from HFA.out.trans hf5 (fun x hx => .inr (by simp [Value.ownBlock] at hx; omega))); have hz5 := hf5.size; simp only [Nat.zero_add]; clear ho5 hf5 hn5)
              | (refine step_appC ?_ (.tmp 73) (.tmp 74) 58 ?_ 61 infoRule Try.underlying58 ?_ ?_ (HONE1.out _) HO5.out ?_ (H1.out.fr (bW_f HF5.out)).rd ?_ ?_ ?_ ?_ ?_; rfl; rfl; rfl; decide; rfl; rfl; (have := HS1.out; unfold maxLen; omega); (have := HS1.out; omega); (simp at hz5; omega); intro v6 w6 ho6 hf6 hn6; obtain ⟨a6, c6, rfl⟩ := ho6.rd.slice; have HO6 := Lib.hid ho6; have HF6 := Lib.hid (show Fr [] (bW W r q) w6 from HF5.out.trans hf6 (fun x hx => .inr (by have := HO5.out.ge x hx; omega))); clear ho6 hf6 hn6)
              | (go_at_call 29; (with_reducible refine (HCJ.out _ _ _ _ (bW_f HF6.out) HO6.out).mono ?_); rintro e wx ⟨rfl, hfx⟩; have HX := Lib.hid (HF6.out.trans hfx (by simp)))
              | fail)
          all_goals (go_wp2_with fail; go_meet)
          all_goals exact ⟨rfl, HE1.out.symm, HX.out⟩
        case rest =>
          obtain ⟨rfl, rfl, hfc⟩ := hcut
          have HFC := Lib.hid hfc
          clear hfc x0 x1 x2 x3 x4 x5
          go_upto_region 14 with fail
          go_cut [16, 90] (fun _ v wy => v = .bool false ∧ wy = wc)
          case first =>
            rcases HCC.out with h | h
            · rw [erV0 h]
              have HAP := Lib.hid (HAPP.out h)
              clear h
              by_cases hi : 0 ≤ I
              · obtain rfl : J = I := HAP.out hi
                clear HAP
                go_wp2_with fail
                go_meet
                exact ⟨rfl, rfl⟩
              · have d1 : decide (0 ≤ I) = false := by simpa using hi
                go_wp2_with fail
                go_meet
                exact ⟨rfl, rfl⟩
            · rw [erV1 h]
              clear h
              go_wp2_with fail
              go_meet
              exact ⟨rfl, rfl⟩
          case rest =>
            obtain ⟨rfl, hw⟩ := hcut
            have hw := hw.symm
            subst hw
            clear HAPP HCJ HCC HONE1
            obtain ⟨x0, x1, x2, x3, x4, x5⟩ := bW_q HFC.out
            obtain ⟨r0, r1⟩ := bW_r HFC.out
            have HHR := Lib.hid (fun w (hf : Fr [] W w) => holds_all HR.out HQ.out w hf)
            have HAH := Lib.hid (fun h1 h2 => fi_ahead (R := R) (r := r) (q := q) (n := k) HZ.out h1 h2)
            have HZ5 := Lib.hid (fun (h : chZ (appR 1 (fun _ => r) R) (1 + k) = 0) => (chZ_zero.1 h).1)
            rw [HI.out] at HAH
            have HCJ := Lib.hid (fun (w : World) (B : Nat) (a : Option Addr) (c : Nat) (hf : Fr [] W w) (ho : OwnC w B 61 (.slice a (1 + k) c) 2 (1 + k) (appC 1 (fun _ => r.F) (fun j => (R j).F))) => first_all (rls_app (R := fun _ => r) (fun _ _ => HR.out.fr hf) (fun j hj => (H0.out.ok j hj).fr hf) ho) (HQ.out.fr hf) w (Fr.refl _ _))
            have HCC := Lib.hid (show chZ (appR 1 (fun _ => r) R) (1 + k) = 0 ∨ chZ (appR 1 (fun _ => r) R) (1 + k) ≠ 0 from Decidable.em _)
            have HRC := Lib.hid (show rf r = 0 ∨ rf r ≠ 0 from Decidable.em _)
            generalize fiI (appR 1 (fun _ => r) R) q (1 + k) = J2 at *
            generalize chZ (appR 1 (fun _ => r) R) (1 + k) = Z2 at *
            generalize rhB r q = b2 at *
            generalize rf r = z at *
            obtain ⟨E2, hE2⟩ : ∃ E2, erVn z = E2 := ⟨_, rfl⟩
            rw [hE2] at HHR
            have HE2 := Lib.hid hE2; clear hE2
            go_upto_region 17 with (go_at_call 30; refine (HHR.out _ (bW_f HFC.out)).mono ?_; rintro e w3 ⟨rfl, hf3⟩; have HF3 := Lib.hid (HFC.out.trans hf3 (by simp)); clear hf3 x0 x1 x2 x3 x4 x5 r0 r1; obtain ⟨x0, x1, x2, x3, x4, x5⟩ := bW_q HF3.out; obtain ⟨r0, r1⟩ := bW_r HF3.out)
            go_cut [15, 19] (fun j e wx => j = .int .i64 J2 ∧ e = erVn Z2 ∧ Fr [] (bW W r q) wx)
            case first =>
              obtain ⟨E1, hE1⟩ : ∃ E1, erVn Z2 = E1 := ⟨_, rfl⟩
              rw [hE1] at HCJ
              have HE1 := Lib.hid hE1; clear hE1
              have HONE1 := Lib.hid (fun (m j : Nat) (_ : j < m) => rl_one (fun _ => r) j)
              have HFD := Lib.hid (show Fr [] (bW W r q) w3.drew from HF3.out.drew)
              have HFA := Lib.hid (show Fr [] (bW W r q) (w3.alloc (.cells #[.slice r.a r.n r.c, .int .i64 r.act] 61)).drew from (HF3.out.alloc _).drew)
              have HO0 := Lib.hid ((rls_one HR.out (bW_f HFA.out) (b := w3.heap.size) (heap_alloc_new w3 (.cells #[.slice r.a r.n r.c, .int .i64 r.act] 61))))
              have hbs := HF3.out.size
              go_region_held3 (fun w4 => (w4.cell? ⟨W.heap.size + 1, 0, none⟩ = some (.slice q.na q.nl q.nc)) ∧ (w4.cell? ⟨W.heap.size + 1, 1, none⟩ = some (.int .i64 q.ty)) ∧ (w4.cell? ⟨W.heap.size + 1, 2, none⟩ = some (.int .i64 q.cl)) ∧ (w4.cell? ⟨W.heap.size + 1, 3, none⟩ = some (.int .i64 q.opc)) ∧ (w4.cell? ⟨W.heap.size + 1, 4, none⟩ = some (.bool q.rd)) ∧ (w4.cell? ⟨W.heap.size + 1, 5, none⟩ = some (.slice q.fa q.fl q.fc)) ∧ (w4.cell? ⟨W.heap.size, 0, none⟩ = some (.slice r.a r.n r.c)) ∧ (w4.cell? ⟨W.heap.size, 1, none⟩ = some (.int .i64 r.act)))
                (first | exact bW_qr HFD.out | exact bW_qr HFA.out | exact bW_qr HF5.out | exact bW_qr HX.out | fail)
                (first
                  | (refine step_appC ?_ (.tmp 100) (.tmp 101) 58 ?_ 61 infoRule Try.underlying58 ?_ ?_ (HONE0.out _) HO0.out ?_ (H0.out.fr (bW_f HFA.out)).rd ?_ ?_ ?_ ?_ ?_; rfl; rfl; rfl; decide; rfl; rfl; (unfold maxLen; omega); omega; (simp); intro v5 w5 ho5 hf5 hn5; obtain ⟨a5, c5, rfl⟩ := ho5.rd.slice; have HO5 := Lib.hid ho5; have HF5 := Lib.hid (show Fr [] (bW W r q) w5 from HFA.out.trans hf5 (fun x hx => .inr (by simp [Value.ownBlock] at hx; omega))); clear ho5 hf5 hn5)
                  | (go_at_call 29; (with_reducible refine (HCJ.out _ _ _ _ (bW_f HF5.out) HO5.out).mono ?_); rintro e wx ⟨rfl, hfx⟩; have HX := Lib.hid (HF5.out.trans hfx (by simp)))
                  | fail)
              all_goals (go_wp2_with fail; go_meet)
              all_goals exact ⟨rfl, HE1.out.symm, HX.out⟩
            case rest =>
              obtain ⟨rfl, rfl, hfd⟩ := hcut
              have HFD := Lib.hid hfd
              clear hfd x0 x1 x2 x3 x4 x5 r0 r1
              rcases HRC.out with hz | hz
              · have e2 : E2 = .nilIface := by rw [← HE2.out]; exact erV0 hz
                subst e2
                rcases HCC.out with h2 | h2
                · rw [erV0 h2]
                  have h50 := HZ5.out h2
                  obtain ⟨p1, p2, p3⟩ := HAH.out hz h2
                  have P1 := Lib.hid p1
                  have P2 := Lib.hid p2
                  have P3 := Lib.hid p3
                  clear p1 p2 p3 h2 hz HAH HZ5
                  have d5 : decide (50 ≤ k) = false := by simp; omega
                  cases b2
                  · by_cases hi : I < 0
                    · have hj := P2.out rfl hi
                      subst hj
                      go_wp2
                      go_ret
                      exact ⟨rfl, bW_f HFD.out⟩
                    · have hj := P3.out rfl (by omega)
                      have d6 : decide (I < 0) = false := by simpa using hi
                      have d7 : decide (0 ≤ I) = true := by simp; omega
                      obtain ⟨M, rfl⟩ := Int.eq_ofNat_of_zero_le (show 0 ≤ I by omega)
                      have hM : (M : Int) < k := by
                        rcases fi_good (q := q) HZ.out with ⟨g1, g2⟩ | ⟨g1, g2⟩ <;> rw [HI.out] at g2 <;> omega
                      subst hj
                      clear hi
                      go_wp2
                      go_ret
                      exact ⟨rfl, bW_f HFD.out⟩
                  · have hj := P1.out rfl
                    subst hj
                    go_wp2
                    go_ret
                    exact ⟨rfl, bW_f HFD.out⟩
                · rw [erV1 h2]
                  clear h2 hz
                  go_wp2
                  go_ret
                  exact ⟨rfl, bW_f HFD.out⟩
              · have e2 : E2 = .iface 71 (.int .i64 z) := by rw [← HE2.out]; exact erV1 hz
                subst e2
                rcases HCC.out with h2 | h2
                · rw [erV0 h2]
                  clear h2 hz
                  go_wp2
                  go_ret
                  exact ⟨rfl, bW_f HFD.out⟩
                · rw [erV1 h2]
                  clear h2 hz
                  go_wp2
                  go_ret
                  exact ⟨rfl, bW_f HFD.out⟩

end Go.Proofs.Ytgpfkaiinbncnaa
