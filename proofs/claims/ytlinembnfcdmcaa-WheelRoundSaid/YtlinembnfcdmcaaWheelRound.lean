/- WheelRound: the walk. -/
import Derived.Test.YtlinembnfcdmcaaWheelRoundPlain
namespace Go.Proofs.Ytlinembnfcdmcaa
open Go.RowKit

theorem wheel_owed_pos (w : World) (p gw go n cw co : Nat) (ws ow : Nat → Int) (all : Int) (h : Wheel w p gw go n cw co ws ow all) (hn : 0 < n) (hnn : n ≤ 1000000000000) :
    Calls Try.prog 24 #[.pointer (some ⟨p, 0, none⟩)] w fun e w' =>
      ∃ g cap, e = .returned (.slice (some ⟨g, 0, none⟩) n cap) ∧ w.heap.size ≤ g ∧ RowI w' g n cap ow ∧ Fr [] w w' :=
  (wheel_owed w p gw go n cw co ws ow all h hnn).mono fun e w' ⟨v', he, ho, hf⟩ => by
    obtain ⟨g, cap, rfl, hb, hr⟩ := ho.row hn
    exact ⟨g, cap, he, hb, hr, hf⟩

def WR2 (w w2 : World) (ws : Nat → Int) (k T p gw go cw co : Nat) (v i : Value) (wr : World) : Prop :=
  ∃ r : Nat, r ≤ 3 ∧ i = .int .i64 r ∧ OwnF wr w2.heap.size 3 v (if r = 0 then 0 else T) (fun s => .int .i64 (trn ws k (wsum ws k) s)) ∧ Wheel wr p gw go k cw co ws (ost ws k (wsum ws k) 0) (wsum ws k) ∧ Fr [] w wr ∧ w2.heap.size ≤ wr.heap.size

def WR3 (w w2 : World) (ws : Nat → Int) (k T r gt p gw go cw co : Nat) (v i : Value) (wx : World) : Prop :=
  ∃ t : Nat, t ≤ T ∧ i = .int .i64 t ∧ OwnF wx w2.heap.size 3 v (if r = 0 then t else T) (fun s => .int .i64 (trn ws k (wsum ws k) s)) ∧ (∀ x ∈ v.ownBlock.toList, x ≠ gt) ∧
    RowI wx gt k k (cnt ws k (wsum ws k) t) ∧ Wheel wx p gw go k cw co ws (ost ws k (wsum ws k) t) (wsum ws k) ∧ Fr [] w wx ∧ gt < wx.heap.size

def WR5 (w w2 : World) (ws : Nat → Int) (k T gt p gw go cw co : Nat) (v : Value) (wx : World) : Prop :=
  OwnF wx w2.heap.size 3 v T (fun s => .int .i64 (trn ws k (wsum ws k) s)) ∧
    RowI wx gt k k ws ∧ Wheel wx p gw go k cw co ws (fun _ => 0) (wsum ws k) ∧ Fr [] w wx ∧ gt < wx.heap.size

theorem WR5.step {w w2 : World} {ws : Nat → Int} {k T gt p gw go cw co : Nat} {v : Value} {wx wy : World} (h : WR5 w w2 ws k T gt p gw go cw co v wx) (hf : Fr [] wx wy) : WR5 w w2 ws k T gt p gw go cw co v wy :=
  ⟨h.1.kept hf (by simp), h.2.1.kept hf (by simp), h.2.2.1.kept hf (by simp), h.2.2.2.1.trans hf (by simp), Nat.lt_of_lt_of_le h.2.2.2.2 hf.size⟩

set_option maxRecDepth 100000 in
set_option maxHeartbeats 4000000 in
theorem wheelRound_any (w : World) (a : Option Addr) (m cap : Nat) (ws : Nat → Int) (rr : Int) (hv : RdF w (.slice a m cap) m (fun j => .int .i64 (ws j))) (hm : m * 8 ≤ 140737488351232) :
    Calls Try.prog 7 #[.slice a m cap, .int .i64 rr] w fun e w' => e = .returned (.bool true) ∧ Fr [] w w' := by
  have HV := Lib.hid hv; clear hv
  go_enter Try.func7, Try.ntmps7
  go_wp2_with (go_at_call 21; refine (wheeled_any _).mono ?_; rintro e w1 ⟨rfl, hf⟩; have HF := Lib.hid hf; clear hf; go_wp2_with fail)
  refine (wheel_new_any _ _ m ws (HV.out.fr HF.out (by simp)) (by unfold maxLen; omega)).mono ?_
  rintro e w2 ⟨hf2, h2⟩
  have HF2 := Lib.hid (HF.out.trans hf2 (by simp))
  clear hf2
  rcases h2 with ⟨_, hk0, hk40, hg, p, gw, go, cw, co, rfl, hp, hgw, hgo, hW⟩ | ⟨hfa, rfl⟩
  · have HG := Lib.hid hg; clear hg
    have HW := Lib.hid hW; clear hW
    by_cases h1 : rr < 1
    · go_wp2
      go_ret
      exact ⟨rfl, HF2.out⟩
    by_cases h3 : 3 < rr
    · go_wp2
      go_ret
      exact ⟨rfl, HF2.out⟩
    have hbig := wsum_le ws m HG.out
    obtain ⟨b, o, cap', he, hnc, hcm, hbw, hc⟩ := HV.out.shape hk0
    simp only [Value.slice.injEq, true_and] at he
    obtain ⟨rfl, rfl⟩ := he
    have HC := Lib.hid hc; clear hc
    go_wp2
    go_loop [8, 9] (fun s i => ∃ k : Nat, k ≤ m ∧ i = .int .i64 k ∧ s = .int .i64 (wsum ws k)) (fun _ i => m - (intOf i).toNat)
    case atStart => exact ⟨0, by omega, rfl, rfl⟩
    case round =>
      obtain ⟨k, hk, rfl, rfl⟩ := hrel
      by_cases hlt : k < m
      · have hcb := HF2.out.cell (HC.out k hlt) (by simp)
        have bd := HG.out k hlt
        have bs := wsum_le ws k (fun j hj => HG.out j (by omega))
        go_wp2
        go_round
        case rel => exact ⟨k + 1, by omega, by go_num, rfl⟩
        case measure => simp [intOf]; omega
      · obtain rfl : k = m := by omega
        by_cases hT300 : 300 < wsum ws k
        · go_wp2
          go_ret
          exact ⟨rfl, HF2.out⟩
        obtain ⟨T, hT⟩ : ∃ T : Nat, (T : Int) = wsum ws k := ⟨(wsum ws k).toNat, by omega⟩
        have hT1 : (T : Int) ≤ wsum ws k := by omega
        have hT2 : wsum ws k ≤ T := by omega
        have HT := Lib.hid hT; clear hT
        have hltW := HW.out.lt
        have hsz2 := HF2.out.size
        have hsz1 := HF.out.size
        go_wp2
        go_loopw [10, 11] (fun v i wr => WR2 w w2 ws k T p gw go cw co v i wr)
          (fun _ i _ => (rr - intOf i).toNat)
        case atStart => exact ⟨0, by omega, rfl, OwnF.nil _ _ _ _, HW.out, HF2.out, by omega⟩
        case round =>
          obtain ⟨r, hr3, rfl, ho, hW, hf, hszr⟩ := hrel
          by_cases hrr : (r : Int) < rr
          · have hmk := run_mk (P := Try.prog) 28 3 infoInt Try.underlying28 k (by omega) (by unfold maxLen; omega)
            have hO0 : OwnF (wr.alloc (.cells (madeCells #[.int .i64 0] k) 3)) w2.heap.size 3 u10 (if r = 0 then 0 else T) (fun s => .int .i64 (trn ws k (wsum ws k) s)) := ho.alloc _
            have hvl := ho.lt
            have HO := Lib.hid hO0; clear ho hO0
            have hrow : RowI (wr.alloc (.cells (madeCells #[.int .i64 0] k) 3)) wr.heap.size k k (fun _ => 0) := row_mk wr 3 (.int .i64 0) rfl k (by unfold maxLen; omega)
            have HR := Lib.hid hrow; clear hrow
            have HWr := Lib.hid (hW.kept ((Fr.refl [] wr).alloc (.cells (madeCells #[.int .i64 0] k) 3)) (by simp)); clear hW
            have HFr := Lib.hid (hf.alloc (.cells (madeCells #[.int .i64 0] k) 3)); clear hf
            have HVL := Lib.hid hvl; clear hvl
            have hszr2 := HFr.out.size
            go_wp2
            have hszo : wr.heap.size < (wr.alloc (.cells (madeCells #[.int .i64 0] k) 3)).heap.size := by simp
            generalize wr.alloc (.cells (madeCells #[.int .i64 0] k) 3) = wo at *
            generalize wr.heap.size = gt at *
            go_loopw [10, 13] (fun v i wx => WR3 w w2 ws k T r gt p gw go cw co v i wx) (fun _ i _ => T - (intOf i).toNat)
            case atStart => exact ⟨0, by omega, rfl, HO.out, fun x hx => by have := HVL.out x hx; omega, HR.out, HWr.out, HFr.out, hszo⟩
            case round =>
              obtain ⟨t, ht, rfl, ho, hvx, hrow, hW, hf, hszx⟩ := hrel
              clear HO HR HWr HFr HVL
              have HO := Lib.hid ho; clear ho
              have HVX := Lib.hid hvx; clear hvx
              have HR := Lib.hid hrow; clear hrow
              have HWr := Lib.hid hW; clear hW
              have HFr := Lib.hid hf; clear hf
              by_cases htT : t < T
              · go_wp2_with fail
                refine (wheel_turn _ _ _ _ _ _ _ _ t HWr.out hk0 hk40 HG.out (by omega)).mono ?_
                rintro e w4 ⟨rfl, hW4, hf4⟩
                have hkk := trn_lt ws k (wsum ws k) t hk0
                have hR4 : RowI w4 gt k k (cnt ws k (wsum ws k) t) := HR.out.kept hf4 (by simp; omega)
                have hO4 := HO.out.kept hf4 (by intro g hg; have := HO.out.ge g (by simp [hg]); simp; omega)
                have hF4 := HFr.out.trans hf4 (by simp; omega)
                have hsz4 := hf4.size
                have hcell : w4.cell? ⟨gt, trn ws k (wsum ws k) t, none⟩ = some (.int .i64 (cnt ws k (wsum ws k) t (trn ws k (wsum ws k) t))) := hR4.cell _ hkk
                have hfroz : w4.frozen? ⟨gt, trn ws k (wsum ws k) t, none⟩ = false := hR4.frozen _
                have hcb := cnt_bd ws k (wsum ws k) t (trn ws k (wsum ws k) t)
                have hst : cnt ws k (wsum ws k) (t + 1) = fun j => cnt ws k (wsum ws k) t j + if j = trn ws k (wsum ws k) t then 1 else 0 := rfl
                have hf5 : Fr [gt] w4 (w4.setCell ⟨gt, trn ws k (wsum ws k) t, none⟩ (.int .i64 (cnt ws k (wsum ws k) t (trn ws k (wsum ws k) t) + 1))) := (Fr.refl [gt] w4).setCell (by simp) _
                have hR5 := (hR4.stored (trn ws k (wsum ws k) t) (.int .i64 (cnt ws k (wsum ws k) t (trn ws k (wsum ws k) t) + 1))).congr (f' := fun j => .int .i64 (cnt ws k (wsum ws k) (t + 1) j)) (fun j hj => by
                  rw [hst]
                  by_cases h : j = trn ws k (wsum ws k) t
                  · rw [if_pos h]; simp only [if_pos h]; rw [h]
                  · rw [if_neg h]; simp [h])
                have hO5 := hO4.kept hf5 (by intro g hg; have := HVX.out g (by simp [hg]); simpa using this)
                have hW5 := hW4.kept hf5 (by simp; omega)
                have hF5 := hF4.trans hf5 (by simp; omega)
                have hsz5 := hf5.size
                clear hf4 hf5 hR4 hW4 hO4 hF4 hst
                have HR5 := Lib.hid hR5; clear hR5
                have HO5 := Lib.hid hO5; clear hO5
                have HW5 := Lib.hid hW5; clear hW5
                have HF5 := Lib.hid hF5; clear hF5
                have hkk0 : (0 : Int) ≤ (trn ws k (wsum ws k) t : Int) := by omega
                have HTR := Lib.hid (show (fun s => Value.int .i64 (trn ws k (wsum ws k) s)) t = .int .i64 (trn ws k (wsum ws k) t) from rfl)
                by_cases hr0 : r = 0
                · have hr0b : ((r : Int) == 0) = true := by simp [hr0]
                  rw [if_pos hr0] at HO5
                  have HR0 := Lib.hid hr0; clear hr0
                  go_wp2_with (at_builtin; refine wpList_app rfl (.tmp 82) (.tmp 84) 28 rfl 3 infoInt Try.underlying28 rfl (HO5.out.alloc _) rfl (rd_one _ _ _ (by simp)) rfl (fun _ _ => rfl) (by unfold maxLen; omega) (by omega) (by simp; omega) ?_; intro v' w6 ho6 hf6 hn6)
                  have hf56 : Fr u10.ownBlock.toList (w4.setCell ⟨gt, trn ws k (wsum ws k) t, none⟩ (.int .i64 (cnt ws k (wsum ws k) t (trn ws k (wsum ws k) t) + 1))) w6 := ((Fr.refl _ _).alloc _).trans hf6 (fun x hx => .inl hx)
                  have hge := HO5.out.ge
                  have HO6 : Hid (OwnF w6 w2.heap.size 3 v' (if r = 0 then t + 1 else T) (fun s => .int .i64 (trn ws k (wsum ws k) s))) := by
                    rw [if_pos HR0.out]
                    exact ho6.congr (fun j hj => by
                      unfold app
                      by_cases hjt : j < t
                      · rw [if_pos hjt]
                      · obtain rfl : j = t := by omega
                        rw [if_neg hjt])
                  have HVX6 : Hid (∀ x ∈ v'.ownBlock.toList, x ≠ gt) := fun x hx => by
                    rcases hn6 x hx with h | h
                    · exact HVX.out x h
                    · simp at h; omega
                  have HR6 := Lib.hid (HR5.out.kept hf56 (fun h => HVX.out gt h rfl))
                  have HW6 := Lib.hid (HW5.out.kept hf56 ⟨fun h => by have := hge _ h; omega, fun h => by have := hge _ h; omega, fun h => by have := hge _ h; omega⟩)
                  have HF6 := Lib.hid (HF5.out.trans hf56 (fun x hx => .inr (by have := hge x hx; omega)))
                  have hsz6 := hf56.size
                  simp only [World.size_setCell] at hsz6
                  clear ho6 hf6 hn6 hf56 hge
                  refine (wheel_owed_pos _ _ _ _ _ _ _ _ _ _ HW6.out hk0 (by omega)).mono ?_
                  rintro e w7 ⟨g7, c7, rfl, hg7, hR7, hf7⟩
                  have HO7 := Lib.hid (HO6.out.kept hf7 (by simp))
                  have HT7 := Lib.hid (HR6.out.kept hf7 (by simp))
                  have HW7 := Lib.hid (HW6.out.kept hf7 (by simp))
                  have HF7 := Lib.hid (HF6.out.trans hf7 (by simp))
                  have HR7 := Lib.hid hR7
                  have hsz7 := hf7.size
                  clear hf7 hR7
                  have HGT := Lib.hid (ost_gt ws k hk0 HG.out (t + 1))
                  have HBD := Lib.hid (ost_bd ws k (wsum ws k) 40000 (by omega) (fun j hj => by have := HG.out j hj; omega) (t + 1))
                  have HSB := Lib.hid (fun i (hi : i ≤ k) => wsum_bd (ost ws k (wsum ws k) (t + 1)) 12040000 i (fun j hj => by have h := HBD.out j (by omega); omega))
                  have HS0 := Lib.hid (wsum_ost ws k hk0 (t + 1))
                  go_wp2
                  go_loop [16, 17] (fun s i => ∃ q : Nat, q ≤ k ∧ i = .int .i64 q ∧ s = .int .i64 (wsum (ost ws k (wsum ws k) (t + 1)) q)) (fun _ i => k - (intOf i).toNat)
                  case atStart => exact ⟨0, by omega, rfl, rfl⟩
                  case round =>
                    obtain ⟨q, hq, rfl, rfl⟩ := hrel
                    by_cases hqk : q < k
                    · have hcq := HR7.out.cell q hqk
                      have b1 := HBD.out q hqk
                      have b2 := HSB.out q (by omega)
                      have b3 := HGT.out q hqk
                      go_wp2
                      go_round
                      case rel => exact ⟨q + 1, by omega, by go_num, rfl⟩
                      case measure => simp [intOf]; omega
                    · obtain rfl : q = k := by omega
                      have hs0 := HS0.out
                      go_wp2
                      go_roundw
                      case rel => exact ⟨t + 1, by omega, by go_num, HO7.out, HVX6.out, HT7.out, HW7.out, HF7.out, by omega⟩
                      case measure => simp [intOf]; omega
                · have hr0b : ((r : Int) == 0) = false := by simp [hr0]
                  rw [if_neg hr0] at HO5
                  have HR0 := Lib.hid hr0; clear hr0
                  obtain ⟨gv, cv, hvv, hbv, hrv⟩ := HO5.out.row (by omega)
                  subst hvv
                  have hcv := hrv.cell t htT
                  have hcv' : (w4.setCell ⟨gt, trn ws k (wsum ws k) t, none⟩ (.int .i64 (cnt ws k (wsum ws k) t (trn ws k (wsum ws k) t) + 1))).cell? ⟨gv, t, none⟩ = some (.int .i64 (trn ws k (wsum ws k) t)) := hcv
                  have hgvt : gv ≠ gt := HVX.out gv (by simp [Value.ownBlock])
                  have hcv4 : w4.cell? ⟨gv, t, none⟩ = some (.int .i64 (trn ws k (wsum ws k) t)) := by
                    rw [← hcv']; exact (World.cell?_of_block (Below.heap_setCell _ _ _ _ hgvt)).symm
                  clear hcv hcv' hrv
                  go_wp2_with fail
                  generalize hw6 : w4.setCell ⟨gt, trn ws k (wsum ws k) t, none⟩ (.int .i64 (cnt ws k (wsum ws k) t (trn ws k (wsum ws k) t) + 1)) = w6 at HO5 HR5 HW5 HF5 hsz5 ⊢
                  clear hw6
                  have HO6 : Hid (OwnF w6 w2.heap.size 3 (.slice (some ⟨gv, 0, none⟩) T cv) (if r = 0 then t + 1 else T) (fun s => .int .i64 (trn ws k (wsum ws k) s))) := by rw [if_neg HR0.out]; exact HO5
                  have HVX6 := HVX
                  have HR6 := HR5
                  have HW6 := HW5
                  have HF6 := HF5
                  have hsz6 := hsz5
                  refine (wheel_owed_pos _ _ _ _ _ _ _ _ _ _ HW6.out hk0 (by omega)).mono ?_
                  rintro e w7 ⟨g7, c7, rfl, hg7, hR7, hf7⟩
                  have HO7 := Lib.hid (HO6.out.kept hf7 (by simp))
                  have HT7 := Lib.hid (HR6.out.kept hf7 (by simp))
                  have HW7 := Lib.hid (HW6.out.kept hf7 (by simp))
                  have HF7 := Lib.hid (HF6.out.trans hf7 (by simp))
                  have HR7 := Lib.hid hR7
                  have hsz7 := hf7.size
                  clear hf7 hR7
                  have HGT := Lib.hid (ost_gt ws k hk0 HG.out (t + 1))
                  have HBD := Lib.hid (ost_bd ws k (wsum ws k) 40000 (by omega) (fun j hj => by have := HG.out j hj; omega) (t + 1))
                  have HSB := Lib.hid (fun i (hi : i ≤ k) => wsum_bd (ost ws k (wsum ws k) (t + 1)) 12040000 i (fun j hj => by have h := HBD.out j (by omega); omega))
                  have HS0 := Lib.hid (wsum_ost ws k hk0 (t + 1))
                  go_wp2
                  go_loop [16, 17] (fun s i => ∃ q : Nat, q ≤ k ∧ i = .int .i64 q ∧ s = .int .i64 (wsum (ost ws k (wsum ws k) (t + 1)) q)) (fun _ i => k - (intOf i).toNat)
                  case atStart => exact ⟨0, by omega, rfl, rfl⟩
                  case round =>
                    obtain ⟨q, hq, rfl, rfl⟩ := hrel
                    by_cases hqk : q < k
                    · have hcq := HR7.out.cell q hqk
                      have b1 := HBD.out q hqk
                      have b2 := HSB.out q (by omega)
                      have b3 := HGT.out q hqk
                      go_wp2
                      go_round
                      case rel => exact ⟨q + 1, by omega, by go_num, rfl⟩
                      case measure => simp [intOf]; omega
                    · obtain rfl : q = k := by omega
                      have hs0 := HS0.out
                      go_wp2
                      go_roundw
                      case rel => exact ⟨t + 1, by omega, by go_num, HO7.out, HVX6.out, HT7.out, HW7.out, HF7.out, by omega⟩
                      case measure => simp [intOf]; omega
              · obtain rfl : t = T := by omega
                have hO5 : OwnF wr w2.heap.size 3 u10 t (fun s => .int .i64 (trn ws k (wsum ws k) s)) := by
                  have h := HO.out
                  by_cases hr0 : r = 0
                  · rwa [if_pos hr0] at h
                  · rwa [if_neg hr0] at h
                have H5 : Hid (WR5 w w2 ws k t gt p gw go cw co u10 wr) := ⟨hO5, HR.out.congr (fun j hj => by rw [round_cnt ws k hk0 HG.out t HT.out j hj]), HWr.out.congr (fun j hj => round_ost ws k hk0 HG.out t HT.out j hj), HFr.out, hszx⟩
                clear hO5 HO HVX HR HWr HFr hszx
                go_wp2
                go_loopw [18] (fun i wx => ∃ q : Nat, q ≤ k ∧ i = .int .i64 q ∧ Hid (WR5 w w2 ws k t gt p gw go cw co u10 wx)) (fun i _ => k - (intOf i).toNat)
                case atStart => exact ⟨0, by omega, rfl, H5⟩
                case round =>
                  obtain ⟨q, hq, rfl, H5⟩ := hrel
                  by_cases hqk : q < k
                  · have hca := H5.out.2.2.2.1.cell (HC.out q hqk) (by simp)
                    have hct := H5.out.2.1.cell q hqk
                    go_upto_region 43 with fail
                    go_cut [137] (fun s wy => s = .bool false ∧ Hid (WR5 w w2 ws k t gt p gw go cw co u10 wy))
                    case first =>
                      go_region_with (go_at_call 24; refine (wheel_owed_pos _ p gw go k cw co ws (fun _ => 0) (wsum ws k) ?_ hk0 (by omega)).mono ?_; (exact (H5.out.2.2.1.drewN 1)); rintro e w7 ⟨g7, c7, rfl, hg7, hR7, hf7⟩; have hc7 := hR7.cell q hqk; clear hR7)
                      all_goals
                        go_wp2_with fail
                        go_meet
                        exact ⟨rfl, H5.out.step ((Fr.refl [] wr).drew.trans hf7 (by simp))⟩
                    case rest =>
                      obtain ⟨rfl, H6⟩ := hcut
                      clear hca hct H5
                      go_wp2
                      go_roundw
                      case rel => exact ⟨q + 1, by omega, by go_num, H6⟩
                      case measure => simp [intOf]; omega
                  · obtain rfl : q = k := by omega
                    have hnew : WR2 w w2 ws q t p gw go cw co u10 (.int .i64 (r + 1 : Nat)) wr := ⟨r + 1, by omega, rfl, by rw [if_neg (by omega)]; exact H5.out.1, H5.out.2.2.1, H5.out.2.2.2.1, by have := H5.out.2.2.2.2; omega⟩
                    have HNEW := Lib.hid hnew; clear hnew H5
                    go_wp2
                    go_roundw
                    case rel =>
                      have e : Value.int .i64 ((r : Int) + 1) = .int .i64 ((r + 1 : Nat) : Int) := by go_num
                      rw [e]
                      exact HNEW.out
                    case measure => simp [intOf]; omega
          · clear ho hW
            have HFr := Lib.hid hf; clear hf
            go_wp2
            go_ret
            exact ⟨rfl, HFr.out⟩
  · generalize wfault m ws = fa at *
    go_wp2
    go_ret
    exact ⟨rfl, HF2.out⟩

end Go.Proofs.Ytlinembnfcdmcaa
