/- TopStream: the walk. -/
import Derived.Test.YtkdmkpdooiacaaaZStream0
namespace Go.Proofs.Ytkdmkpdooiacaaa
open Go.RowKit

/-- the first loop: the stream is made -/
def TS1 (w : World) (p B n : Nat) (M : Nat → Ms) (L : Nat → Nat) (F : Nat → Nat → Int) (va i : Value) (wr : World) : Prop :=
  ∃ k : Nat, k ≤ n ∧ i = .int .i64 k ∧ OwnF wr B 5 va (ed L k) (fun j => .int .u8 (str L F k j)) ∧ (∀ j, j < k → wrMsg (M j).lst = .ok (wl (M j))) ∧ wr.heap[p]? = some (.cells #[.slice none 0 0] 46 (0, 0)) ∧ Fr [] w wr ∧ B ≤ wr.heap.size

def TS2 (w : World) (p B n cn : Nat) (L : Nat → Nat) (F : Nat → Nat → Int) (va a nn i : Value) (wr : World) : Prop :=
  ∃ at' n' i' : Nat, a = .int .i64 at' ∧ nn = .int .i64 n' ∧ i = .int .i64 i' ∧ i' ≤ cn + 1 ∧ (i' = cn + 1 → at' = ed L n) ∧ FPst w p B n L F va at' n' wr

theorem FPst.fr {w wc wr : World} {p B M at' n : Nat} {L : Nat → Nat} {F : Nat → Nat → Int} {va : Value} (h : FPst w p B M L F va at' n wc) (hf : Fr [] wc wr) : FPst w p B M L F va at' n wr := by
  obtain ⟨g1, g2, g3, g4, g5, ⟨rv, r1, r2, r3⟩, g7, g8⟩ := h
  exact ⟨g1, g2, g3, g4, g5.kept hf (by simp), ⟨rv, hf.blk r1 (by simp), r2.kept hf (by simp), r3⟩, g7.trans hf (by simp), Nat.le_trans g8 hf.size⟩

theorem ed_bd {L : Nat → Nat} (h : ∀ i, L i ≤ 65535) (k : Nat) : ed L k ≤ 65537 * k := by
  induction k with
  | zero => exact Nat.le_refl _
  | succ k ih => have := h k; simp only [ed]; omega

/-- a message's fifteen cells -/
theorem msC_get (h : Hd) (q a u m : Value) (c : Nat) (hc : c < 15) : (msgCs h q a u m)[c]? = some (msC h q a u m c) := by
  match c, hc with
  | 0, _ => rfl
  | 1, _ => rfl
  | 2, _ => rfl
  | 3, _ => rfl
  | 4, _ => rfl
  | 5, _ => rfl
  | 6, _ => rfl
  | 7, _ => rfl
  | 8, _ => rfl
  | 9, _ => rfl
  | 10, _ => rfl
  | 11, _ => rfl
  | 12, _ => rfl
  | 13, _ => rfl
  | 14, _ => rfl

/-- where the i-th message lies -/
theorem MsgsAt.rng {B : HB} {w : World} {a : Option Addr} {n c : Nat} {M : Nat → Ms} {V : Nat → Value × Value × Value × Value} (h : MsgsAt B w (.slice a n c) n M V) (hn : 0 < n) :
    ∃ b o, a = some ⟨b, o, none⟩ ∧ n ≤ c ∧ c ≤ maxLen ∧ ∀ i, i < n → w.rangeAt b (o + i * 15) (msgCs (M i).h (V i).1 (V i).2.1 (V i).2.2.1 (V i).2.2.2).toList := by
  obtain ⟨b, o, cap, he, h1, h2, _, h3⟩ := h.1.shape hn (by decide)
  simp only [Value.slice.injEq, true_and] at he
  obtain ⟨rfl, rfl⟩ := he
  refine ⟨b, o, rfl, h1, h2, fun i hi j u hj => ?_⟩
  rw [Array.getElem?_toList] at hj
  have hj15 : j < 15 := by
    have := (Array.getElem?_eq_some_iff.1 hj).1
    exact this
  rw [msC_get _ _ _ _ _ _ hj15] at hj
  cases hj
  exact h3 i j hi hj15

theorem range_fr {w w' : World} {b o : Nat} {cs : List Value} (h : w.rangeAt b o cs) (hf : Fr [] w w') : w'.rangeAt b o cs := fun j u hj => hf.cell (h j u hj) (by simp)

set_option maxRecDepth 100000 in
set_option maxHeartbeats 8000000 in
theorem topStream_any (w : World) (am : Option Addr) (n cm : Nat) (M : Nat → Ms) (V : Nat → Value × Value × Value × Value) (hm : MsgsAt ⟨w.heap.size, []⟩ w (.slice am n cm) n M V) (hn : n ≤ 140737488351232)
    (ac : Option Addr) (cn cc : Nat) (cf : Nat → Int) (hc : RdF w (.slice ac cn cc) cn (fun j => .int .i64 (cf j))) (hcn : cn ≤ 17592186044416) :
    Calls Try.prog 3 #[.slice am n cm, .slice ac cn cc] w fun e w' => e = .returned (.bool true) ∧ Fr [] w w' := by
  obtain ⟨L, hL⟩ : ∃ L : Nat → Nat, L = fun i => (wl (M i)).length := ⟨_, rfl⟩
  obtain ⟨F, hF⟩ : ∃ F : Nat → Nat → Int, F = fun i j => (gB (wl (M i)) j : Int) := ⟨_, rfl⟩
  have HL := Lib.hid (show ∀ i, L i = (wl (M i)).length from fun i => by rw [hL])
  have HFV := Lib.hid (show ∀ i j, F i j = (gB (wl (M i)) j : Int) from fun i j => by rw [hF])
  have HL65 := Lib.hid (show ∀ i, L i ≤ 65535 from fun i => by rw [hL]; exact wl_len)
  have HFB := Lib.hid (show ∀ i j, 0 ≤ F i j ∧ F i j ≤ 255 from fun i j => by rw [hF]; have := gB_lt (wl (M i)) j; simp only; omega)
  clear hL hF
  have HM := Lib.hid hm; clear hm
  have HC := Lib.hid hc; clear hc
  have HED := Lib.hid (fun k => ed_bd HL65.out k)
  go_enter Try.func3, Try.ntmps3
  go_wp2_with fail
  with_reducible refine (tsentA_any _).mono ?_
  rintro e w1 ⟨rfl, hf⟩
  have HF1 := Lib.hid hf; clear hf
  go_wp2_with fail
  with_reducible refine (stream_new _).mono ?_
  rintro e w2 ⟨rfl, hw2⟩
  have hb2 : w2.heap[w1.heap.size]? = some (.cells #[.slice none 0 0] 46 (0, 0)) := by rw [← hw2]; exact heap_alloc_new w1 _
  have hf2 : Fr [] w w2 := by rw [← hw2]; exact HF1.out.alloc _
  clear hw2
  have HB2 := Lib.hid hb2; clear hb2
  have HF2 := Lib.hid hf2; clear hf2
  have hlp := lt_of_blk HB2.out
  have hsz1 := HF1.out.size
  have hsz2 := HF2.out.size
  generalize w1.heap.size = p at *
  by_cases h10 : 10 < n
  · have k0 : (10 : Int) < (n : Int) := by omega
    go_wp2
    go_ret
    exact ⟨rfl, HF2.out⟩
  have k0 : ¬ (10 : Int) < (n : Int) := by omega
  go_wp2
  go_loopw [7, 8] (fun va i wr => TS1 w p w2.heap.size n M L F va i wr) (fun _ i _ => n - (intOf i).toNat)
  case atStart => exact ⟨0, by omega, rfl, OwnF.nil _ _ _ _, fun j hj => by omega, HB2.out, HF2.out, Nat.le_refl _⟩
  case round =>
    obtain ⟨k, hk, rfl, ha, hl, hbp, hf, hsz⟩ := hrel
    have HA := Lib.hid ha; clear ha
    have HLL := Lib.hid hl; clear hl
    have HBP := Lib.hid hbp; clear hbp
    have HFF := Lib.hid hf; clear hf
    by_cases hkM : k < n
    · obtain ⟨b, o, rfl, _, _, hrg⟩ := HM.out.rng (by omega)
      have hr1 := range_fr (hrg k hkM) HFF.out
      have hmk := (HM.out.2 k hkM).frH (HFF.out.hot0 _)
      have HWR := Lib.hid (writeM_any wr ⟨w.heap.size, []⟩ (M k) _ _ _ _ hmk)
      unfold msgV at HWR
      have HCS := Lib.hid (show (Try.prog.info? 37).map (·.size) = some (msgCs (M k).h (V k).1 (V k).2.1 (V k).2.2.1 (V k).2.2.2).toList.length from by
        show _ = some 15
        kernel_rfl)
      have HWV := Lib.hid (show Calls Try.prog 6 #[.agg (msgCs (M k).h (V k).1 (V k).2.1 (V k).2.2.1 (V k).2.2.2)] wr (WrMGood wr (wrMsg (M k).lst)) from HWR.out)
      clear hrg hmk HWR
      obtain ⟨C, hC⟩ : ∃ C, msgCs (M k).h (V k).1 (V k).2.1 (V k).2.2.1 (V k).2.2.2 = C := ⟨_, rfl⟩
      rw [hC] at hr1 HCS HWV
      clear hC
      have HWO := Lib.hid (fun x (h : wrMsg (M k).lst = .ok x) => wl_ok h)
      have k1 : (0 : Int) ≤ (k : Int) := by omega
      have k2 : (k : Int) < (n : Int) := by omega
      have hk10 : k ≤ 10 := by omega
      have HEK := Lib.hid (HED.out k)
      have hed : ed L (k + 1) = ed L k + (2 + L k) := rfl
      have HED1 := Lib.hid hed; clear hed
      go_wp2_with (first
        | ((with_reducible refine wpList_loadArr ?_ 37 (.tmp 41) ?_ b (o + k * 15) ?_ C _ ?_ Try.underlying37 ?_ ?_ ?_); rfl; rfl; rfl; exact hr1; rfl; exact HCS.out)
        | fail)
      with_reducible refine HWV.out.mono ?_
      rintro e w3 ⟨h3, hf3⟩
      rcases h3 with ⟨z, hz, hz0, rfl⟩ | ⟨X, xa, xc, hx, rfl, hox⟩
      · have HF3 := Lib.hid (HFF.out.trans hf3 (by simp))
        clear hz hz0 hf3 HWV
        go_wp2
        go_ret
        exact ⟨rfl, HF3.out⟩
      · have HX := Lib.hid hx
        have hxl : X.length = L k := by rw [HL.out k, HWO.out X hx]
        have hl65 := HL65.out k
        have HFR := Lib.hid (frame_ok w3 xa X.length xc (F k) (hox.rd.congr (fun j hj => by
          rw [HFV.out k j, HWO.out X hx]
          rfl)) (by omega))
        have HF3 := Lib.hid (HFF.out.trans hf3 (by simp))
        have HA3 := Lib.hid (HA.out.kept hf3 (by simp))
        have HB3 := Lib.hid (hf3.blk HBP.out (by simp))
        have hs3 := hf3.size
        rw [hxl] at HFR ⊢
        clear hf3 hox hx HWV
        go_wp2_with fail
        with_reducible refine HFR.out.mono ?_
        rintro e w4 ⟨g4, c4, rfl, hg4, hr4, hf4⟩
        have HR4 := Lib.hid hr4.rd
        have HA4 := Lib.hid (HA3.out.kept hf4 (by simp))
        have HB4 := Lib.hid (hf4.blk HB3.out (by simp))
        have HF4 := Lib.hid (HF3.out.trans hf4 (by simp))
        have hs4 := hf4.size
        have hek := HEK.out
        clear hr4 hf4
        go_wp2_with (first
          | (at_builtin; refine wpList_app rfl (.tmp 55) (.tmp 56) 27 rfl 5 infoU8 Try.underlying27 rfl HA4.out rfl HR4.out rfl (fun _ _ => rfl) (by unfold maxLen; omega) (by omega) (by omega) ?_; intro v5 w5 ho5 hf5 hn5
             have HO5 := Lib.hid ho5
             have HB5 := Lib.hid (hf5.blk HB4.out (fun hx => by have := HA4.out.ge p hx; omega))
             have HF5 := Lib.hid (HF4.out.trans hf5 (fun x hx => .inr (by have := HA4.out.ge x hx; omega)))
             have hs5 := hf5.size
             clear ho5 hf5 hn5)
          | fail)
        have hrel : TS1 w p w2.heap.size n M L F v5 (.int .i64 ((k : Int) + 1)) w5 := by
          refine ⟨k + 1, by omega, by go_num, ?_, ?_, HB5.out, HF5.out, by omega⟩
          · rw [HED1.out]
            refine HO5.out.congr (fun j hj => ?_)
            unfold app
            simp only [str]
            by_cases hjk : j < ed L k
            · rw [if_pos hjk, if_pos hjk]
            · rw [if_neg hjk, if_neg hjk]
          · intro j hj
            by_cases hjk : j < k
            · exact HLL.out j hjk
            · obtain rfl : j = k := by omega
              rw [HX.out, HWO.out X HX.out]
        have HREL := Lib.hid hrel
        clear hrel
        go_wp2
        go_roundw
        case rel => exact HREL.out
        case measure => simp [intOf]; omega
    · obtain rfl : k = n := by omega
      obtain ⟨aa, ca, hva⟩ := HA.out.rd.slice
      subst hva
      have HST0 := Lib.hid (show TS2 w p w2.heap.size k cn L F (.slice aa (ed L k) ca) (.int .i64 0) (.int .i64 0) (.int .i64 0) wr from
        ⟨0, 0, 0, rfl, rfl, rfl, by omega, by omega, by omega, by omega, by simp [ed], fun h => by simp only [ed]; omega, HA.out, ⟨_, HBP.out, OwnF.nil _ _ _ _, by simp [Value.ownBlock]⟩, HFF.out, hsz⟩)
      have hEM := HED.out k
      have hk10 : k ≤ 10 := by omega
      clear HA HBP hkM
      go_wp2
      go_loopw [12, 13, 14] (fun a n i wr => TS2 w p w2.heap.size k cn L F (.slice aa (ed L k) ca) a n i wr) (fun _ _ i _ => cn + 1 - (intOf i).toNat)
      case atStart => exact HST0.out
      case round =>
        clear HFF hsz HST0
        obtain ⟨at', n', i', rfl, rfl, rfl, hi, hend, hst⟩ := hrel
        have HST := Lib.hid hst; clear hst
        have HEND := Lib.hid hend; clear hend
        have hat := HST.out.1
        have hn := HST.out.2.1
        by_cases hic : i' ≤ cn
        · have hle : (i' : Int) ≤ (cn : Int) := by omega
          have HWR := Lib.hid (show Fr [] w wr from HST.out.2.2.2.2.2.2.1)
          have HCC := Lib.hid (show i' < cn → ∃ b o, ac = some ⟨b, o, none⟩ ∧ wr.cell? ⟨b, o + i', none⟩ = some (.int .i64 (cf i')) from fun hlt => by
            obtain ⟨b, o, cp, hq, _, _, _, hcell⟩ := HC.out.shape (by omega)
            simp only [Value.slice.injEq, true_and] at hq
            exact ⟨b, o, hq.1, HWR.out.cell (hcell i' hlt) (by simp)⟩)
          obtain ⟨cb, hcb⟩ : ∃ cb : Bool, cb = decide (i' < cn ∧ (at' : Int) ≤ cf i' ∧ cf i' < (ed L k : Nat)) := ⟨_, rfl⟩
          have HCB := Lib.hid hcb; clear hcb
          go_upto_region 24 with fail
          go_cut [85] (fun s wy => s = .bool cb ∧ wy = wr)
          case first =>
            by_cases h1 : i' < cn
            · obtain ⟨b, o, hac, hcell⟩ := HCC.out h1
              subst hac
              by_cases h2 : (at' : Int) ≤ cf i'
              · by_cases h3 : cf i' < (ed L k : Nat)
                · have E1 := Lib.hid (show cb = true from by rw [HCB.out]; simp [h1, h2, h3])
                  go_wp2_with fail
                  go_meet
                  exact ⟨by rw [E1.out], rfl⟩
                · have E1 := Lib.hid (show cb = false from by rw [HCB.out]; simp [h3])
                  go_wp2_with fail
                  go_meet
                  exact ⟨by rw [E1.out], rfl⟩
              · have E1 := Lib.hid (show cb = false from by rw [HCB.out]; simp [h2])
                go_wp2_with fail
                go_meet
                exact ⟨by rw [E1.out], rfl⟩
            · have E1 := Lib.hid (show cb = false from by rw [HCB.out]; simp [h1])
              go_wp2_with fail
              go_meet
              exact ⟨by rw [E1.out], rfl⟩
          case rest =>
            obtain ⟨rfl, rfl⟩ := hcut
            go_upto_if 85 with fail
            go_cut [15] (fun s wy => wy = wc ∧ ∃ nx : Nat, s = .int .i64 nx ∧ at' ≤ nx ∧ nx ≤ ed L k ∧ (i' = cn → nx = ed L k))
            case first =>
              cases cb with
              | true =>
                obtain ⟨h1, h2, h3⟩ : i' < cn ∧ (at' : Int) ≤ cf i' ∧ cf i' < (ed L k : Nat) := of_decide_eq_true HCB.out.symm
                obtain ⟨b, o, hac, hcell⟩ := HCC.out h1
                subst hac
                obtain ⟨nx, hnx⟩ : ∃ nx : Nat, cf i' = nx := ⟨(cf i').toNat, by omega⟩
                have HNX := Lib.hid hnx
                have hb1 : at' ≤ nx := by omega
                have hb2 : nx ≤ ed L k := by omega
                clear hnx
                go_wp2_with fail
                go_meet
                exact ⟨rfl, nx, by rw [HNX.out], hb1, hb2, fun h => by omega⟩
              | false =>
                go_wp2_with fail
                go_meet
                exact ⟨rfl, ed L k, rfl, hat, Nat.le_refl _, fun _ => rfl⟩
            case rest =>
              obtain ⟨rfl, nx, rfl, hx1, hx2, hx3⟩ := hcut
              have HX3 := Lib.hid hx3; clear hx3
              obtain ⟨rv, hrv, hro, hrd⟩ := HST.out.2.2.2.2.2.1
              have HRV := Lib.hid hrv; clear hrv
              have HRO := Lib.hid hro; clear hro
              have HRD := Lib.hid hrd; clear hrd
              have HAA := Lib.hid HST.out.2.2.2.2.1
              have hedn := HST.out.2.2.1
              go_upto_region 26 with fail
              go_cut [16] (fun got wy => FPgot w p w2.heap.size k L F (.slice aa (ed L k) ca) nx n' got wy)
              case first =>
                have hca := (HAA.out.rd.le_cap).1
                have HP := Lib.hid (show ∀ (b : Option Addr) (cb : Nat), RdF wc (.slice b (nx - at') cb) (nx - at') (fun j => .int .u8 (str L F k (at' + j))) →
                    Calls Try.prog 8 #[.pointer (some ⟨p, 0, none⟩), .slice b (nx - at') cb] wc (fun e w' => ∃ got, e = .returned got ∧ FPgot w p w2.heap.size k L F (.slice aa (ed L k) ca) nx n' got w') from fun b cb hb => by
                  have hrvB := HRO.out.ge
                  refine (feed_any wc p rv (at' - ed L n') (nx - at') b cb (fun j => str L F k (ed L n' + j)) (fun j => str L F k (at' + j)) (hS L F k n') (nx - ed L n') HRV.out w2.heap.size HRO.out (fun hx => by have := hrvB p hx; omega) (HST.out.2.2.2.2.2.2.2) hb (by omega) (fun j hj => ?_) (hS_bd L F k n' HFB.out) (by omega)).mono ?_
                  · unfold hS
                    rw [if_pos (by omega)]
                    by_cases hj2 : j < at' - ed L n'
                    · rw [if_pos hj2]
                    · rw [if_neg hj2, show at' + (j - (at' - ed L n')) = ed L n' + j by omega]
                  · intro e w' hp
                    exact fp_got (fun i _ => HL65.out i) HST.out hx1 hx2 hlp (by omega) hrvB HRD.out hp)
                by_cases hcat : ca ≤ at'
                · go_wp2_with fail
                  refine (HP.out _ _ ?_).mono ?_
                  · rw [show nx - at' = 0 by omega]
                    exact HAA.out.rd.empty _
                  · rintro e w7 ⟨got, rfl, hg⟩
                    have HG := Lib.hid hg; clear hg
                    go_wp2_with fail
                    go_meet
                    exact HG.out
                · go_wp2_with fail
                  refine (HP.out _ _ (HAA.out.rd.part at' nx hx1 hx2)).mono ?_
                  rintro e w7 ⟨got, rfl, hg⟩
                  have HG := Lib.hid hg; clear hg
                  go_wp2_with fail
                  go_meet
                  exact HG.out
              case rest =>
                obtain ⟨kk, Vg, hst2, hog, hVg⟩ := hcut
                obtain ⟨ag, cg, hgg⟩ := hog.rd.slice
                subst hgg
                have hn2 := hst2.2.1
                have HST2 := Lib.hid hst2; clear hst2
                have HOG := Lib.hid hog; clear hog
                have HVG := Lib.hid hVg; clear hVg
                clear HST HRV HRO HRD HAA HCC HCB HWR
                go_wp2
                go_loopw [13, 17] (fun nn qi wx => ∃ q : Nat, q ≤ kk ∧ qi = .int .i64 q ∧ nn = .int .i64 ((n' + q : Nat) : Int) ∧ Fr [] wc wx) (fun _ i _ => kk - (intOf i).toNat)
                case atStart => exact ⟨0, by omega, rfl, rfl, Fr.refl _ _⟩
                case round =>
                  obtain ⟨q, hq, rfl, rfl, hfr⟩ := hrel
                  have HFR := Lib.hid hfr; clear hfr
                  by_cases hqk : q < kk
                  · obtain ⟨gg, cgg, hgg, _, hrg⟩ := HOG.out.row (by omega)
                    simp only [Value.slice.injEq, true_and] at hgg
                    obtain ⟨rfl, rfl⟩ := hgg
                    obtain ⟨bm, om, rfl, hnm, hmm, hrm⟩ := HM.out.rng (by omega)
                    have hvq := HVG.out q hqk
                    obtain ⟨av, cv, hav⟩ := hvq.rd.slice
                    have k1 : wr.cell? ⟨gg, q, none⟩ = some (.slice av (L (n' + q)) cv) := by rw [← hav]; exact HFR.out.cell (hrg.cell q hqk) (by simp)
                    have HWW := Lib.hid (HLL.out (n' + q) (by omega))
                    have hrd := rd_wr HWW.out
                    have HFW := Lib.hid (show Fr [] w wr from HST2.out.2.2.2.2.2.2.1.trans HFR.out (by simp))
                    have HRM := Lib.hid (readM_any wr av cv (wl (M (n' + q))) (by
                      rw [← HL.out, ← hav]
                      exact (hvq.rd.fr HFR.out (by simp)).congr (fun j _ => by rw [HFV.out]; rfl)) (by have := hrd.2.2; omega))
                    rw [hrd.1, ← HL.out] at HRM
                    have HRX := Lib.hid (show Calls Try.prog 9 #[.slice av (L (n' + q)) cv] wr fun e w' => ∃ vq va vu vm, e = .returned (.tuple #[msgV (M (n' + q)).h vq va vu vm, .nilIface]) ∧ MsOk ⟨0, []⟩ w' (M (n' + q)).lst.fn vq va vu vm ∧ Fr [] wr w' from HRM.out.mono fun e w' ⟨h, hf⟩ => by
                      rcases h with ⟨z, hz, _⟩ | ⟨m, vq, va, vu, vm, hm, rfl, h1, h2, h3, h4⟩
                      · cases hz
                      · cases hm
                        exact ⟨vq, va, vu, vm, rfl, rdM_ok hrd.1 h1 h2 h3 h4 ⟨0, []⟩ (by simp), hf⟩)
                    have HMQ := Lib.hid (HM.out.2 (n' + q) (by omega))
                    have HTI := Lib.hid (tie_ok HMQ.out)
                    have HRG2 := Lib.hid (hrm (n' + q) (by omega))
                    have k3 : (0 : Int) ≤ (q : Int) := by omega
                    have k4 : (q : Int) < (kk : Int) := by omega
                    have k5 : (0 : Int) ≤ ((n' + q : Nat) : Int) := by omega
                    have k6 : ((n' + q : Nat) : Int) < (k : Int) := by omega
                    have k7 : ¬ (k : Int) ≤ ((n' + q : Nat) : Int) := by omega
                    have k8 : n' + q ≤ 10 := by omega
                    have HK := Lib.hid hqk
                    clear hrg hvq hav hrd hrm HRM hqk
                    generalize hnq : n' + q = nq0 at *
                    have HNQ := Lib.hid hnq; clear hnq
                    have HHD := Lib.hid (show (M nq0).lst.fn.h = (M nq0).h from rfl)
                    go_wp2_with fail
                    with_reducible refine HRX.out.mono ?_
                    rintro e w8 ⟨vq, va, vu, vm, rfl, hmo, hf8⟩
                    have HMO := Lib.hid hmo
                    have HF8 := Lib.hid hf8
                    obtain ⟨C2, hC2⟩ : ∃ C, msgCs (M nq0).h vq va vu vm = C := ⟨_, rfl⟩
                    rw [show msgV (M nq0).h vq va vu vm = .agg C2 from by rw [← hC2]; rfl]
                    have HC2 := Lib.hid hC2
                    have HS1 := Lib.hid (show (Try.prog.info? 37).map (·.size) = some C2.toList.length from by
                      rw [← hC2]
                      show _ = some 15
                      kernel_rfl)
                    have HS1z := Lib.hid (show C2.size = 15 ∧ (Try.prog.info? 37).map (·.size) = some C2.size from by
                      rw [← hC2]
                      exact ⟨rfl, by show _ = some 15; kernel_rfl⟩)
                    have HONE := Lib.hid (show C2.all (·.oneCell') = true from by
                      rw [← hC2]
                      obtain ⟨_, q1⟩ := HMO.out.hq
                      obtain ⟨_, q2⟩ := HMO.out.ha
                      obtain ⟨_, q3⟩ := HMO.out.hu
                      obtain ⟨_, q4⟩ := HMO.out.hm
                      obtain ⟨_, _, rfl⟩ := q1.rd.slice
                      obtain ⟨_, _, rfl⟩ := q2.rd.slice
                      obtain ⟨_, _, rfl⟩ := q3.rd.slice
                      obtain ⟨_, _, rfl⟩ := q4.rd.slice
                      unfold msgCs
                      simp [Value.oneCell'])
                    obtain ⟨C3, hC3⟩ : ∃ C, msgCs (M nq0).h (V nq0).1 (V nq0).2.1 (V nq0).2.2.1 (V nq0).2.2.2 = C := ⟨_, rfl⟩
                    have HC3 := Lib.hid hC3
                    have HS2 := Lib.hid (show (Try.prog.info? 37).map (·.size) = some C3.toList.length from by
                      rw [← hC3]
                      show _ = some 15
                      kernel_rfl)
                    rw [hC3] at HRG2
                    clear hC2 hC3 hmo hf8 HRX
                    go_wp2_with (first
                      | ((with_reducible refine wpList_storeArr ?_ 37 (.tmp 18) (.tmp 109) ?_ w8.heap.size C2 #[.int .i64 0, .bool false, .int .i64 0, .bool false, .bool false, .bool false, .bool false, .bool false, .bool false, .bool false, .int .i64 0, .slice none 0 0, .slice none 0 0, .slice none 0 0, .slice none 0 0] 37 ?_ ?_ ?_ ?_ ?_ ?_ ?_); rfl; rfl; rfl; rfl; exact heap_alloc_new w8 _; exact HS1z.out.1; exact HS1z.out.2; exact HONE.out; intro w9 hb9 hf9
                         have HB9 := Lib.hid hb9
                         have HFF8 := Lib.hid (show Fr [] wc w9 from ((HFR.out.trans HF8.out (by simp)).alloc _).trans hf9 (fun x hx => .inr (by have := (HFR.out.trans HF8.out (S := []) (by simp)).size; simp at hx; omega)))
                         have HF89 := Lib.hid (show Fr [] w8 w9 from ((Fr.refl [] w8).alloc _).trans hf9 (fun x hx => .inr (by simp at hx; omega)))
                         clear hb9 hf9)
                      | fail)
                    have HR1 := Lib.hid (fun (wx : World) (h : Fr [] w9 wx) => show wx.rangeAt w8.heap.size 0 C2.toList from rng_arr (h.blk HB9.out (by simp)))
                    have HR2 := Lib.hid (fun (wx : World) (h : Fr [] w9 wx) => show wx.rangeAt bm (om + nq0 * 15) C3.toList from range_fr HRG2.out (((HFW.out.trans HF8.out (by simp)).trans HF89.out (by simp)).trans h (by simp)))
                    have HEQ := Lib.hid (fun (wx : World) (h : Fr [] w9 wx) => show Calls Try.prog 10 #[.agg C2, .agg C3] wx fun e w' => e = .returned (.bool true) ∧ Fr [] wx w' from by
                      have h1 := message_eq wx ⟨0, []⟩ ⟨w.heap.size, []⟩ (M nq0).lst.fn (M nq0) vq va vu vm _ _ _ _ (HMO.out.frH ((HF89.out.trans h (by simp)).hot0 _)) (HMQ.out.frH ((((HFW.out.trans HF8.out (by simp)).trans HF89.out (by simp)).trans h (by simp)).hot0 _)) HTI.out
                      rw [HHD.out] at h1
                      rw [← HC2.out, ← HC3.out]
                      exact h1)
                    clear HMO HMQ HTI HRG2 HC2 HC3 HONE
                    go_upto_region 34 with fail
                    refine wp_region_any (by kernel_rfl) ?_
                    try (change wpAny _ _ _ _ _ _ _ (World.drew _))
                    refine wpAny_take (i := 1) (v := ?_) rfl (by kernel_rfl) (by kernel_rfl) (by kernel_rfl) (fun _ _ _ h => h) (Or.inl ⟨by rfl, ?_⟩) ?_
                    case refine_2 => (intro wq; go_simp; try (with_reducible rfl))
                    try simp only [Act.put, List.setIfInBounds_toArray, List.set_cons_zero, List.set_cons_succ]
                    refine wpAny_take (i := 2) (v := ?_) rfl (by kernel_rfl) (by kernel_rfl) (by kernel_rfl) (fun _ _ _ h => h) (Or.inl ⟨by rfl, ?_⟩) ?_
                    case refine_2 => (intro wq; go_simp; try (with_reducible rfl))
                    try simp only [Act.put, List.setIfInBounds_toArray, List.set_cons_zero, List.set_cons_succ]
                    refine wpAny_take (i := 3) (v := ?_) rfl (by kernel_rfl) (by kernel_rfl) (by kernel_rfl) (fun _ _ _ h => h) (Or.inl ⟨by rfl, ?_⟩) ?_
                    case refine_2 => (intro wq; go_simp; try (with_reducible rfl))
                    try simp only [Act.put, List.setIfInBounds_toArray, List.set_cons_zero, List.set_cons_succ]
                    refine wpAny_ready (rs := [0, 4]) (by kernel_rfl) (by simp) ?_
                    refine AllReady.cons rfl (fun K hK => ?_) (AllReady.cons rfl (fun K hK => ?_) AllReady.nil)
                    · (refine step_loadArr ?_ 37 (.tmp 18) ?_ w8.heap.size 0 ?_ C2 _ (HR1.out _ ((Fr.refl [] _).drew)) Try.underlying37 ?_ ?_ ?_; rfl; rfl; (go_simp); rfl; exact HS1.out; refine hK _ _ ?_; clear hK K; try simp only [Act.put, List.setIfInBounds_toArray, List.set_cons_zero, List.set_cons_succ])
                      refine wpAny_ready (rs := [4]) (by kernel_rfl) (by simp) ?_
                      refine AllReady.cons rfl (fun K hK => ?_) AllReady.nil
                      (refine step_loadArr ?_ 37 (.tmp 122) ?_ bm (om + nq0 * 15) ?_ C3 _ (HR2.out _ ((Fr.refl [] _).drew)) Try.underlying37 ?_ ?_ ?_; rfl; rfl; (go_simp); rfl; exact HS2.out; refine hK _ _ ?_; clear hK K; try simp only [Act.put, List.setIfInBounds_toArray, List.set_cons_zero, List.set_cons_succ])
                      refine wpAny_ready (rs := [5]) (by kernel_rfl) (by simp) ?_
                      refine AllReady.cons rfl (fun K hK => ?_) AllReady.nil
                      go_simp
                      go_wp2_with ((go_at_call 10; (with_reducible refine (HEQ.out _ ((Fr.refl [] _).drew)).mono ?_); rintro ed wx ⟨rfl, hfx⟩))
                      try (refine hK _ _ ?_; clear hK K)
                      refine wpAny_take (i := 6) (v := ?_) rfl (by kernel_rfl) (by kernel_rfl) (by kernel_rfl) (fun _ _ _ h => h) (Or.inl ⟨by rfl, ?_⟩) ?_
                      case refine_2 => (intro wq; go_simp; try (with_reducible rfl))
                      try simp only [Act.put, List.setIfInBounds_toArray, List.set_cons_zero, List.set_cons_succ]
                      refine wpAny_done (by kernel_rfl) ?_ _
                      have HFX := Lib.hid (show Fr [] wc wx from (HFF8.out.drew).trans hfx (by simp))
                      clear hfx
                      go_wp2
                      go_roundw
                      case rel => exact ⟨q + 1, by have := HK.out; omega, by go_num, by have := HNQ.out; go_num, HFX.out⟩
                      case measure => (have := HK.out; simp [intOf]; omega)
                    · (refine step_loadArr ?_ 37 (.tmp 122) ?_ bm (om + nq0 * 15) ?_ C3 _ (HR2.out _ ((Fr.refl [] _).drew)) Try.underlying37 ?_ ?_ ?_; rfl; rfl; (go_simp); rfl; exact HS2.out; refine hK _ _ ?_; clear hK K; try simp only [Act.put, List.setIfInBounds_toArray, List.set_cons_zero, List.set_cons_succ])
                      refine wpAny_ready (rs := [0]) (by kernel_rfl) (by simp) ?_
                      refine AllReady.cons rfl (fun K hK => ?_) AllReady.nil
                      (refine step_loadArr ?_ 37 (.tmp 18) ?_ w8.heap.size 0 ?_ C2 _ (HR1.out _ ((Fr.refl [] _).drew)) Try.underlying37 ?_ ?_ ?_; rfl; rfl; (go_simp); rfl; exact HS1.out; refine hK _ _ ?_; clear hK K; try simp only [Act.put, List.setIfInBounds_toArray, List.set_cons_zero, List.set_cons_succ])
                      refine wpAny_ready (rs := [5]) (by kernel_rfl) (by simp) ?_
                      refine AllReady.cons rfl (fun K hK => ?_) AllReady.nil
                      go_simp
                      go_wp2_with ((go_at_call 10; (with_reducible refine (HEQ.out _ ((Fr.refl [] _).drew)).mono ?_); rintro ed wx ⟨rfl, hfx⟩))
                      try (refine hK _ _ ?_; clear hK K)
                      refine wpAny_take (i := 6) (v := ?_) rfl (by kernel_rfl) (by kernel_rfl) (by kernel_rfl) (fun _ _ _ h => h) (Or.inl ⟨by rfl, ?_⟩) ?_
                      case refine_2 => (intro wq; go_simp; try (with_reducible rfl))
                      try simp only [Act.put, List.setIfInBounds_toArray, List.set_cons_zero, List.set_cons_succ]
                      refine wpAny_done (by kernel_rfl) ?_ _
                      have HFX := Lib.hid (show Fr [] wc wx from (HFF8.out.drew).trans hfx (by simp))
                      clear hfx
                      go_wp2
                      go_roundw
                      case rel => exact ⟨q + 1, by have := HK.out; omega, by go_num, by have := HNQ.out; go_num, HFX.out⟩
                      case measure => (have := HK.out; simp [intOf]; omega)
                  · obtain rfl : q = kk := by omega
                    have HREL2 := Lib.hid (show TS2 w p w2.heap.size k cn L F (.slice aa (ed L k) ca) (.int .i64 nx) (.int .i64 ((n' + q : Nat) : Int)) (.int .i64 ((i' : Int) + 1)) wr from
                      ⟨nx, n' + q, i' + 1, rfl, rfl, by go_num, by omega, fun h => HX3.out (by omega), HST2.out.fr HFR.out⟩)
                    have kf : ¬ (q : Int) < (q : Int) := by omega
                    have kb : (i' : Int) ≤ 17592186044416 := by omega
                    clear HST2 HFR HX3 hqk
                    generalize n' + q = nq0 at *
                    go_wp2
                    go_roundw
                    case rel => exact HREL2.out
                    case measure => (simp [intOf]; omega)
        · have e1 : at' = ed L k := HEND.out (by omega)
          have e2 : n' = k := by
            by_cases hlt : n' < k
            · have h5 := HST.out.2.2.2.1 hlt
              have h6 := ed_le L (show n' + 1 ≤ k by omega)
              omega
            · omega
          subst e2
          have HFR := Lib.hid (show Fr [] w wr from HST.out.2.2.2.2.2.2.1)
          have kf : ¬ (i' : Int) ≤ (cn : Int) := by omega
          clear HST HEND
          go_wp2
          go_ret
          exact ⟨rfl, HFR.out⟩

end Go.Proofs.Ytkdmkpdooiacaaa
