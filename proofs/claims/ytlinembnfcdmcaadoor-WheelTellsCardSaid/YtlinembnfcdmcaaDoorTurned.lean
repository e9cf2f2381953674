/- The reference's WeightsFault and Turned. -/
import Derived.Test.YtlinembnfcdmcaaDoorWheelTurn
import Derived.Test.YtlinembnfcdmcaaDoorInfo
import Derived.Test.YtlinembnfcdmcaaDoorStepApp
namespace Go.Proofs.YtlinembnfcdmcaaDoor
open Go.RowKit

theorem wrapI {x : Int} (h0 : -9223372036854775808 ≤ x) (h1 : x ≤ 9223372036854775807) : IntKind.i64.wrap x = x := by
  simp [IntKind.wrap, IntKind.signed, IntKind.bits]
  omega

set_option maxHeartbeats 1000000 in
theorem weightsFault_any (w : World) (a : Option Addr) (n c : Nat) (ws : Nat → Int) (hv : RdF w (.slice a n c) n (fun j => .int .i64 (ws j))) (hn : n ≤ 9223372036854775807) :
    Calls Tryd.prog 35 #[.slice a n c] w fun e w' => e = .returned (.int .i64 (wfault n ws)) ∧ ∃ q, w' = w.drewN q := by
  have HV := Lib.hid hv; clear hv
  by_cases h0 : n = 0
  · subst h0
    go_enter Tryd.func35, Tryd.ntmps35
    go_wp2
    go_ret
    exact ⟨rfl, 0, rfl⟩
  have hne : ((n : Int) == 0) = false := by simp; omega
  by_cases h1 : 40 < n
  · go_enter Tryd.func35, Tryd.ntmps35
    go_wp2
    go_ret
    exact ⟨by have e : wfault n ws = 7 := by { unfold wfault; rw [if_neg h0, if_pos h1] }; rw [e]; rfl, 0, rfl⟩
  · go_enter Tryd.func35, Tryd.ntmps35
    go_wp2
    go_loopw [3] (fun i wr => ∃ k : Nat, k ≤ n ∧ i = .int .i64 k ∧ Hid (∀ j, j < k → 1 ≤ ws j ∧ ws j ≤ 1000) ∧ wr = w) (fun i _ => n - (intOf i).toNat)
    case atStart => exact ⟨0, by omega, rfl, Lib.hid (fun j hj => by omega), rfl⟩
    case round =>
      obtain ⟨k, hk, rfl, HG, rfl⟩ := hrel
      by_cases hlt : k < n
      · obtain ⟨b1, o1, c1, he1, _, _, _, hc1⟩ := HV.out.shape (by omega)
        simp only [Value.slice.injEq, true_and] at he1
        obtain ⟨rfl, rfl⟩ := he1
        have k1 := hc1 k hlt
        clear hc1
        have k0 : (0 : Int) ≤ (k : Int) := by omega
        have k3 : (k : Int) < (n : Int) := by omega
        have hbad : ¬ (1 ≤ ws k ∧ ws k ≤ 1000) → wfault n ws = 6 := fun hb => by
          unfold wfault
          rw [if_neg h0, if_neg h1, if_neg (fun hg => hb (hg k hlt))]
        have HBAD := Lib.hid hbad; clear hbad
        by_cases hw1 : ws k < 1
        · have e := HBAD.out (by omega)
          have E := Lib.hid e; clear e
          go_wp2
          go_ret
          exact ⟨by rw [E.out]; rfl, 0, rfl⟩
        · by_cases hw2 : 1000 < ws k
          · have e := HBAD.out (by omega)
            have E := Lib.hid e; clear e
            go_wp2
            go_ret
            exact ⟨by rw [E.out]; rfl, 0, rfl⟩
          · have hgood : ∀ j, j < k + 1 → 1 ≤ ws j ∧ ws j ≤ 1000 := fun j hj => by
              by_cases hjk : j < k
              · exact HG.out j hjk
              · rw [show j = k by omega]; omega
            have HG2 := Lib.hid hgood; clear hgood
            go_wp2
            go_roundw
            case rel => exact ⟨k + 1, by omega, by go_num, HG2, by trivial⟩
            case measure => simp [intOf]; omega
      · have e : wfault n ws = 0 := by
          unfold wfault
          rw [if_neg h0, if_neg h1, if_pos (fun j hj => HG.out j (by omega))]
        have E := Lib.hid e; clear e
        go_wp2
        go_ret
        exact ⟨by rw [E.out]; rfl, 0, rfl⟩

set_option maxRecDepth 100000 in
set_option maxHeartbeats 2000000 in
theorem turned_any (w : World) (a b : Option Addr) (n c d : Nat) (ws ow : Nat → Int) (hv : RdF w (.slice a n c) n (fun j => .int .i64 (ws j))) (ho : RdF w (.slice b n d) n (fun j => .int .i64 (ow j))) (hn0 : 0 < n) (hn : n ≤ 40)
    (hb : ∀ j, j < n → 1 ≤ ws j ∧ ws j ≤ 1000 ∧ -1000000000 ≤ ow j ∧ ow j ≤ 1000000000) :
    Calls Tryd.prog 37 #[.slice a n c, .slice b n d] w fun e w' => ∃ v, e = .returned (.tuple #[v, .int .i64 (bst (fun j => ow j + ws j) n)]) ∧
      OwnF w' w.heap.size 3 v n (fun j => .int .i64 (ow j + ws j - if j = bst (fun j => ow j + ws j) n then wsum ws n else 0)) ∧ Fr [] w w' := by
  have HV := Lib.hid hv; clear hv
  have HO := Lib.hid ho; clear ho
  have HB := Lib.hid hb; clear hb
  go_enter Tryd.func37, Tryd.ntmps37
  go_wp2
  go_loopw [6, 7, 8] (fun out all i wr => ∃ k : Nat, k ≤ n ∧ i = .int .i64 k ∧ all = .int .i64 (wsum ws k) ∧ OwnF wr w.heap.size 3 out k (fun j => .int .i64 (ow j + ws j)) ∧ Fr [] w wr) (fun _ _ i _ => n - (intOf i).toNat)
  case atStart => exact ⟨0, by omega, rfl, rfl, OwnF.nil _ _ _ _, Fr.refl _ _⟩
  case round =>
    obtain ⟨k, hk, rfl, rfl, hout, hf⟩ := hrel
    have HOUT := Lib.hid hout; clear hout
    have HF := Lib.hid hf; clear hf
    by_cases hlt : k < n
    · obtain ⟨b1, o1, c1, he1, _, _, _, hc1⟩ := HV.out.shape (by omega)
      simp only [Value.slice.injEq, true_and] at he1
      obtain ⟨rfl, rfl⟩ := he1
      obtain ⟨b2, o2, c2, he2, _, _, _, hc2⟩ := HO.out.shape (by omega)
      simp only [Value.slice.injEq, true_and] at he2
      obtain ⟨rfl, rfl⟩ := he2
      have k1 : wr.cell? ⟨b1, o1 + k, none⟩ = some (.int .i64 (ws k)) := HF.out.cell (hc1 k hlt) (by simp)
      have k2 : wr.cell? ⟨b2, o2 + k, none⟩ = some (.int .i64 (ow k)) := HF.out.cell (hc2 k hlt) (by simp)
      have KW := Lib.hid (hc1 k hlt)
      clear hc1 hc2
      have k0 : (0 : Int) ≤ (k : Int) := by omega
      have k3 : (k : Int) < (n : Int) := by omega
      have hb1 := HB.out k hlt
      have hsz := HF.out.size
      go_upto_region 6 with fail
      go_cut [6] (fun s wy => OwnF wy w.heap.size 3 s (k + 1) (fun j => .int .i64 (ow j + ws j)) ∧ Fr [] w wy)
      case first =>
        have ho2 : ∀ ob, OwnF (wr.drew.alloc ob) w.heap.size 3 u6 k (fun j => .int .i64 (ow j + ws j)) := fun ob => HOUT.out.kept (((Fr.refl [] wr).drew).alloc ob) (by simp)
        have HOUT2 := Lib.hid ho2; clear ho2
        go_region_law (refine step_app rfl (.tmp 17) (.tmp 27) 22 rfl 3 infoInt Tryd.underlying22 rfl (HOUT2.out _) rfl (rd_one _ _ _ (by simp)) rfl (fun _ _ => rfl) (by unfold maxLen; omega) (by omega) (by simp; omega) ?_; intro v1 w1 ho1 hf1 hn1)
        all_goals (go_wp2_with fail; go_meet)
        all_goals refine ⟨ho1.congr (fun j hj => ?_), ?_⟩
        all_goals first
          | exact (((HF.out.alloc _).drew).trans hf1 (fun x hx => .inr (HOUT.out.ge x hx)))
          | exact (((HF.out.drew).alloc _).trans hf1 (fun x hx => .inr (HOUT.out.ge x hx)))
          | (unfold app
             by_cases hjk : j < k
             · rw [if_pos hjk]
             · obtain rfl : j = k := by omega
               rw [if_neg hjk, wrapI (by omega) (by omega)])
      case rest =>
        obtain ⟨ho1, hf1⟩ := hcut
        have HO1 := Lib.hid ho1; clear ho1
        have HF1 := Lib.hid hf1; clear hf1
        have k4 := HF1.out.cell KW.out (by simp)
        have hsum : -1000000 ≤ wsum ws k ∧ wsum ws k ≤ 1000000 := by
          have := wsum_le ws k (fun j hj => ⟨(HB.out j (by omega)).1, (HB.out j (by omega)).2.1⟩)
          omega
        clear k1 k2
        go_wp2
        go_roundw
        case rel => exact ⟨k + 1, by omega, by go_num, by rfl, HO1.out, HF1.out⟩
        case measure => simp [intOf]; omega
    · obtain rfl : k = n := by omega
      obtain ⟨g, cap, e6, hg6, hr6⟩ := HOUT.out.row hn0
      have hsum : -1000000 ≤ wsum ws k ∧ wsum ws k ≤ 1000000 := by
        have := wsum_le ws k (fun j hj => ⟨(HB.out j hj).1, (HB.out j hj).2.1⟩)
        omega
      subst e6
      clear HOUT
      obtain ⟨f, hfd⟩ : ∃ f : Nat → Int, f = fun j => ow j + ws j := ⟨_, rfl⟩
      have hfb : ∀ j, j < k → -2000000000 ≤ f j ∧ f j ≤ 2000000000 := fun j hj => by
        have := HB.out j hj
        rw [hfd]
        show -2000000000 ≤ ow j + ws j ∧ ow j + ws j ≤ 2000000000
        omega
      have hr7 : RowF wr g 3 k cap (fun j => .int .i64 (f j)) := by rw [hfd]; exact hr6
      have HR7 := Lib.hid hr7
      have HFB := Lib.hid hfb
      have HFD := Lib.hid hfd
      clear hr6 hr7 hfb hfd
      go_wp2
      go_loopw [9, 10] (fun b i wx => ∃ t : Nat, t ≤ k ∧ i = .int .i64 t ∧ b = .int .i64 (bst f t) ∧ RowF wx g 3 k cap (fun j => .int .i64 (f j)) ∧ Fr [] w wx) (fun _ i _ => k - (intOf i).toNat)
      case atStart => exact ⟨0, by omega, rfl, rfl, HR7.out, HF.out⟩
      case round =>
        obtain ⟨t, ht, rfl, rfl, hr, hf⟩ := hrel
        clear HR7 HF
        have HR := Lib.hid hr; clear hr
        have HF := Lib.hid hf; clear hf
        have hb0 : bst f t < k := by rcases bst_lt f t with h | h <;> omega
        by_cases hlt2 : t < k
        · have x1 := HR.out.cell t hlt2
          have x2 := HR.out.cell (bst f t) hb0
          have hst : bst f (t + 1) = if f (bst f t) < f t then t else bst f t := rfl
          have HST := Lib.hid hst; clear hst
          have t0 : (0 : Int) ≤ (t : Int) := by omega
          have t3 : (t : Int) < (k : Int) := by omega
          have HRQ := Lib.hid (fun q => HR.out.kept ((Fr.refl [] wr).drewN q) (by simp))
          have HFQ := Lib.hid (fun q => HF.out.drewN q)
          generalize bst f t = b at *
          have b0 : (0 : Int) ≤ (b : Int) := by omega
          have b3 : (b : Int) < (k : Int) := by omega
          by_cases hc : f b < f t
          · go_wp2_with fail
            go_quiet (fail)
            go_wp2
            go_roundw
            case rel => exact ⟨t + 1, by omega, by go_num, by rw [HST.out, if_pos hc], HRQ.out _, HFQ.out _⟩
            case measure => simp [intOf]; omega
          · go_wp2_with fail
            go_quiet (fail)
            go_wp2
            go_roundw
            case rel => exact ⟨t + 1, by omega, by go_num, by rw [HST.out, if_neg (by omega)], HRQ.out _, HFQ.out _⟩
            case measure => simp [intOf]; omega
        · obtain rfl : t = k := by omega
          have x2 := HR.out.cell (bst f t) hb0
          have f2 := HR.out.frozen (bst f t)
          have bd := HFB.out (bst f t) hb0
          have hfin := (HR.out.stored (bst f t) (.int .i64 (f (bst f t) - wsum ws t))).congr (f' := fun j => .int .i64 (ow j + ws j - if j = bst (fun j => ow j + ws j) t then wsum ws t else 0)) (fun j hj => by
            rw [← HFD.out]
            have e : ow j + ws j = f j := by rw [HFD.out]
            rw [e]
            by_cases h : j = bst f t
            · rw [if_pos h, if_pos h, h]
            · rw [if_neg h, if_neg h]; simp)
          have HFIN := Lib.hid hfin; clear hfin
          have HFF := Lib.hid (HF.out.setCell (p := ⟨g, bst f t, none⟩) (.inr hg6) (.int .i64 (f (bst f t) - wsum ws t)))
          have HBE := Lib.hid (show bst (fun j => ow j + ws j) t = bst f t by rw [HFD.out])
          generalize bst f t = b at *
          have b0 : (0 : Int) ≤ (b : Int) := by omega
          have b3 : (b : Int) < (t : Int) := by omega
          go_wp2
          go_ret2
          exact ⟨_, by rw [HBE.out]; rfl, .inr ⟨g, cap, rfl, hg6, HFIN.out⟩, HFF.out⟩
end Go.Proofs.YtlinembnfcdmcaaDoor
