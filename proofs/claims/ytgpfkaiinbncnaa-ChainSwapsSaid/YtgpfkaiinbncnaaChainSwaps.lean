/- ChainSwaps, walked (printed by wip/bin/chainswaps.py). -/
import Derived.Test.YtgpfkaiinbncnaaChainAll
namespace Go.Proofs.Ytgpfkaiinbncnaa
open Go.RowKit

/-- rules K and K + 1 exchanged -/
def swR (K : Nat) (R : Nat → Rl) (j : Nat) : Rl := if j = K then R (K + 1) else if j = K + 1 then R K else R j

theorem swR_z {R : Nat → Rl} {n K : Nat} (h : chZ R n = 0) (hK : K + 1 < n) : chZ (swR K R) n = 0 := by
  obtain ⟨h1, h2⟩ := chZ_zero.1 h
  refine chZ_zero.2 ⟨h1, fun j hj => ?_⟩
  unfold swR
  by_cases e1 : j = K
  · rw [if_pos e1]; exact h2 _ (by omega)
  · rw [if_neg e1]
    by_cases e2 : j = K + 1
    · rw [if_pos e2]; exact h2 _ (by omega)
    · rw [if_neg e2]; exact h2 _ hj

theorem swR_hd {R : Nat → Rl} {q : Qt} {K j : Nat} : hd (swR K R) q j = if j = K then hd R q (K + 1) else if j = K + 1 then hd R q K else hd R q j := by
  unfold hd swR
  split
  · rfl
  · split <;> rfl

/-- the law -/
theorem doI_swaps {R : Nat → Rl} {q : Qt} {n K : Nat} {other : Int} (h : chZ R n = 0) (hK : K + 1 < n) (hab : hd R q K = true → hd R q (K + 1) = true → (R K).act = (R (K + 1)).act) : doI (swR K R) q n other = doI R q n other := by
  have hs := swR_z h hK
  unfold doI
  rw [if_pos h, if_pos hs]
  have hle := ffst_le (hd R q) n
  by_cases h0 : ffst (hd R q) n < n
  · rw [if_pos h0]
    have hat := ffst_at h0
    have hbe : ∀ j, j < ffst (hd R q) n → hd R q j = false := fun j hj => ffst_below hj
    generalize ffst (hd R q) n = f at *
    by_cases c1 : f < K
    · have e : ffst (hd (swR K R) q) n = f := ffst_is h0 (by rw [swR_hd, if_neg (by omega), if_neg (by omega)]; exact hat) (fun j hj => by rw [swR_hd, if_neg (by omega), if_neg (by omega)]; exact hbe j hj)
      rw [e, if_pos h0]
      unfold swR
      rw [if_neg (by omega), if_neg (by omega)]
    · by_cases c2 : f = K
      · subst c2
        by_cases hb : hd R q (f + 1) = true
        · have e : ffst (hd (swR f R) q) n = f := ffst_is h0 (by rw [swR_hd, if_pos rfl]; exact hb) (fun j hj => by rw [swR_hd, if_neg (by omega), if_neg (by omega)]; exact hbe j hj)
          rw [e, if_pos h0]
          unfold swR
          rw [if_pos rfl]
          exact (hab hat hb).symm
        · have e : ffst (hd (swR f R) q) n = f + 1 := ffst_is hK (by rw [swR_hd, if_neg (by omega), if_pos rfl]; exact hat) (fun j hj => by
            rw [swR_hd]
            by_cases hj2 : j = f
            · rw [if_pos hj2]; simpa using hb
            · rw [if_neg hj2, if_neg (by omega)]; exact hbe j (by omega))
          rw [e, if_pos hK]
          unfold swR
          rw [if_neg (by omega), if_pos rfl]
      · by_cases c3 : f = K + 1
        · subst c3
          have e : ffst (hd (swR K R) q) n = K := ffst_is (by omega) (by rw [swR_hd, if_pos rfl]; exact hat) (fun j hj => by rw [swR_hd, if_neg (by omega), if_neg (by omega)]; exact hbe j (by omega))
          rw [e, if_pos (by omega)]
          unfold swR
          rw [if_pos rfl]
        · have e : ffst (hd (swR K R) q) n = f := ffst_is h0 (by rw [swR_hd, if_neg (by omega), if_neg (by omega)]; exact hat) (fun j hj => by
            rw [swR_hd]
            by_cases hj2 : j = K
            · rw [if_pos hj2]; exact hbe _ (by omega)
            · rw [if_neg hj2]
              by_cases hj3 : j = K + 1
              · rw [if_pos hj3]; exact hbe _ (by omega)
              · rw [if_neg hj3]; exact hbe j hj)
          rw [e, if_pos h0]
          unfold swR
          rw [if_neg (by omega), if_neg (by omega)]
  · rw [if_neg h0]
    have e : ffst (hd (swR K R) q) n = n := ffst_none (fun j hj => by
      have hall := fun j hj => ffst_all (p := hd R q) (n := n) (by omega) j hj
      rw [swR_hd]
      by_cases hj2 : j = K
      · rw [if_pos hj2]; exact hall _ (by omega)
      · rw [if_neg hj2]
        by_cases hj3 : j = K + 1
        · rw [if_pos hj3]; exact hall _ (by omega)
        · rw [if_neg hj3]; exact hall j hj)
    rw [e, if_neg (by omega)]

/-- an element of two cells is stored -/
theorem RowC.stored2 {w : World} {g : Nat} {E : TypeId} {n cap : Nat} {F : Nat → Nat → Value} (h : RowC w g E 2 n cap F) (k : Nat) (hk : k < n) (u v : Value) {w7 : World} (hw : (w.setCell ⟨g, k * 2, none⟩ u).setCell ⟨g, k * 2 + 1, none⟩ v = w7) :
    (w.cell? ⟨g, k * 2, none⟩ = some (F k 0) ∧ w.frozen? ⟨g, k * 2, none⟩ = false) ∧ ((w.setCell ⟨g, k * 2, none⟩ u).cell? ⟨g, k * 2 + 1, none⟩ = some (F k 1) ∧ (w.setCell ⟨g, k * 2, none⟩ u).frozen? ⟨g, k * 2 + 1, none⟩ = false) ∧
    RowC w7 g E 2 n cap (fun i => if i = k then (fun c => if c = 0 then u else v) else F i) ∧ Fr [g] w w7 := by
  subst hw
  obtain ⟨cur, h1, h2, h3, h4, h5⟩ := h
  have hlt : ∀ c, c < 2 → k * 2 + c < n * 2 := fun c hc => by omega
  have e0 := h5 (k * 2 + 0) (hlt 0 (by decide))
  have e1 := h5 (k * 2 + 1) (hlt 1 (by decide))
  rw [fls_at (by decide)] at e0 e1
  rw [Nat.add_zero] at e0
  have b1 : (w.setCell ⟨g, k * 2, none⟩ u).heap[g]? = some (.cells (cur.setIfInBounds (k * 2) u) E (0, 0)) := by
    simp only [World.setCell]
    rw [Array.getElem?_modify, if_pos rfl, h1]
    rfl
  have b2 : ((w.setCell ⟨g, k * 2, none⟩ u).setCell ⟨g, k * 2 + 1, none⟩ v).heap[g]? = some (.cells ((cur.setIfInBounds (k * 2) u).setIfInBounds (k * 2 + 1) v) E (0, 0)) := by
    simp only [World.setCell]
    rw [Array.getElem?_modify, if_pos rfl]
    have := b1
    simp only [World.setCell] at this
    rw [this]
    rfl
  have hsz : k * 2 + 1 < cur.size := by have := (Array.getElem?_eq_some_iff.1 e1).1; exact this
  refine ⟨⟨blk_cell h1 _ e0, blk_frozen h1 _⟩, ⟨blk_cell b1 _ ?_, blk_frozen b1 _⟩, ⟨_, b2, by simpa using h2, h3, h4, fun j hj => ?_⟩, ((Fr.refl [g] w).setCell (p := ⟨g, k * 2, none⟩) (by simp) u).setCell (p := ⟨g, k * 2 + 1, none⟩) (by simp) v⟩
  · rw [Array.getElem?_setIfInBounds_ne (by omega)]; exact e1
  · have hj5 := h5 j hj
    unfold fls at hj5 ⊢
    dsimp only at hj5 ⊢
    by_cases hjk : j / 2 = k
    · rw [if_pos hjk]
      by_cases hz : j % 2 = 0
      · obtain rfl : j = k * 2 := by omega
        rw [Array.getElem?_setIfInBounds_ne (by omega), Array.getElem?_setIfInBounds_self_of_lt (by omega), if_pos (by omega)]
      · obtain rfl : j = k * 2 + 1 := by omega
        rw [Array.getElem?_setIfInBounds_self_of_lt (by simp; omega), if_neg (by omega)]
    · rw [if_neg hjk, Array.getElem?_setIfInBounds_ne (by omega), Array.getElem?_setIfInBounds_ne (by omega)]
      exact hj5


theorem qF {W w : World} {q : Qt} (h : Fr [] (qW W q) w) : Fr [] W w := ((Fr.refl [] W).alloc _).trans h (by simp)

set_option maxHeartbeats 16000000 in
set_option maxRecDepth 100000 in
theorem chainSwaps_any (W : World) (a0 : Option Addr) (n0 c0 : Nat) (R : Nat → Rl) (h0 : Rls W a0 n0 c0 R) (x1 : Int) (hx1 : -9223372036854775808 ≤ x1 ∧ x1 ≤ 9223372036854775807) (q : Qt) (hq : q.Ok W) (other : Int) :
    Calls Try.prog 10 #[.slice a0 n0 c0, .int .i64 x1, q.agg, .int .i64 other] W fun e w' => e = .returned (.bool true) ∧ Fr [] W w' := by
  have H0 := Lib.hid h0; clear h0
  have HQ := Lib.hid hq; clear hq
  have hcap := H0.out.hc
  unfold maxLen at hcap
  have HDO := Lib.hid (fun w (hf : Fr [] W w) => do_all H0.out HQ.out other w hf)
  unfold Qt.agg
  go_enter Try.func10, Try.ntmps10
  have HB := Lib.hid (Fr.refl [] (qW W q))
  by_cases hz : chZ R n0 = 0
  case neg =>
    rw [show erVn (chZ R n0) = .iface 71 (.int .i64 (chZ R n0)) from erV1 hz] at HDO
    clear hz
    generalize chZ R n0 = z at *
    generalize doI R q n0 other = I at *
    go_wp2_with (first
      | (go_at_call 28; refine (chained_any _).mono ?_; rintro e w1 ⟨rfl, hf1⟩; have HF1 := Lib.hid (HB.out.trans hf1 (by simp)); obtain ⟨x0, x1', x2, x3, x4, x5⟩ := qbox q HF1.out; clear hf1)
      | (go_at_call 31; refine (HDO.out _ (qF HF1.out)).mono ?_; rintro e w2 ⟨rfl, hf2⟩))
    go_ret
    exact ⟨rfl, (qF HF1.out).trans hf2 (by simp)⟩
  case pos =>
    have HZ := Lib.hid hz
    have hn0 := (chZ_zero.1 hz).1
    rw [show erVn (chZ R n0) = .nilIface from erV0 hz] at HDO
    clear hz
    obtain ⟨I, hI⟩ : ∃ I, doI R q n0 other = I := ⟨_, rfl⟩
    rw [hI] at HDO
    have HI := Lib.hid hI; clear hI
    by_cases hneg : x1 < 0
    · go_wp2_with (first
        | (go_at_call 28; refine (chained_any _).mono ?_; rintro e w1 ⟨rfl, hf1⟩; have HF1 := Lib.hid (HB.out.trans hf1 (by simp)); obtain ⟨x0, x1', x2, x3, x4, x5⟩ := qbox q HF1.out; clear hf1)
        | (go_at_call 31; refine (HDO.out _ (qF HF1.out)).mono ?_; rintro e w2 ⟨rfl, hf2⟩))
      go_ret
      exact ⟨rfl, (qF HF1.out).trans hf2 (by simp)⟩
    obtain ⟨K, rfl⟩ := Int.eq_ofNat_of_zero_le (show 0 ≤ x1 by omega)
    have d0 : decide ((K : Int) < 0) = false := by simp
    clear hneg
    have hws : IntKind.i64.wrap ((n0 : Int) - 1) = (n0 : Int) - 1 := IntWalk.i64_in _ (by omega)
    by_cases hge : (n0 : Int) - 1 ≤ (K : Int)
    · have d1 : decide ((n0 : Int) - 1 ≤ (K : Int)) = true := by simpa using hge
      have d2 : decide ((n0 : Int) ≤ (K : Int) + 1) = true := by simp; omega
      clear hge
      go_wp2_with (first
        | (go_at_call 28; refine (chained_any _).mono ?_; rintro e w1 ⟨rfl, hf1⟩; have HF1 := Lib.hid (HB.out.trans hf1 (by simp)); obtain ⟨x0, x1', x2, x3, x4, x5⟩ := qbox q HF1.out; clear hf1)
        | (go_at_call 31; refine (HDO.out _ (qF HF1.out)).mono ?_; rintro e w2 ⟨rfl, hf2⟩))
      go_ret
      exact ⟨rfl, (qF HF1.out).trans hf2 (by simp)⟩
    have hK : K + 1 < n0 := by omega
    have d1 : decide ((n0 : Int) - 1 ≤ (K : Int)) = false := by simpa using hge
    clear hge
    go_upto_region 7 with (first
      | (go_at_call 28; refine (chained_any _).mono ?_; rintro e w1 ⟨rfl, hf1⟩; have HF1 := Lib.hid (HB.out.trans hf1 (by simp)); obtain ⟨x0, x1', x2, x3, x4, x5⟩ := qbox q HF1.out; clear hf1)
      | (go_at_call 31; refine (HDO.out _ (qF HF1.out)).mono ?_; rintro e w2 ⟨rfl, hf2⟩; have HF2 := Lib.hid (HF1.out.trans hf2 (by simp)); clear hf2 x0 x1' x2 x3 x4 x5 HF1))
    obtain ⟨bb, oo, cc, he, _, _, _, hcell0⟩ := H0.out.rd.shape (by omega) (by decide)
    simp only [Value.slice.injEq, true_and] at he
    obtain ⟨rfl, rfl⟩ := he
    have HCL := Lib.hid (show ∀ w4, Fr [] W w4 → ((w4.cell? ⟨bb, oo + K * 2, none⟩ = some (.slice (R (K)).a (R (K)).n (R (K)).c)) ∧ (w4.cell? ⟨bb, oo + K * 2 + 1, none⟩ = some (.int .i64 (R (K)).act))) ∧ ((w4.cell? ⟨bb, oo + (K + 1) * 2, none⟩ = some (.slice (R (K + 1)).a (R (K + 1)).n (R (K + 1)).c)) ∧ (w4.cell? ⟨bb, oo + (K + 1) * 2 + 1, none⟩ = some (.int .i64 (R (K + 1)).act))) ∧ bb < W.heap.size from fun w4 h4 =>
      ⟨⟨h4.cell (hcell0 K 0 (by omega) (by decide)) (by simp), h4.cell (hcell0 K 1 (by omega) (by decide)) (by simp)⟩, ⟨h4.cell (hcell0 (K + 1) 0 hK (by decide)) (by simp), h4.cell (hcell0 (K + 1) 1 hK (by decide)) (by simp)⟩, by
        have := World.block_lt_of_cell? W _ (hcell0 K 0 (by omega) (by decide))
        simpa using this⟩)
    clear hcell0
    have HHO := Lib.hid (fun k (hk : k < n0) w (hf : Fr [] W w) => holds_all (H0.out.ok k hk) HQ.out w hf)
    have HHN := Lib.hid (fun k (hk : k < n0) => erV0 ((chZ_zero.1 HZ.out).2 k hk))
    have HCA := Lib.hid (fun w hf => HHO.out K (by omega) w hf)
    have HCB := Lib.hid (fun w hf => HHO.out (K + 1) hK w hf)
    rw [HHN.out K (by omega), rhB_good HZ.out (show K < n0 by omega)] at HCA
    rw [HHN.out (K + 1) hK, rhB_good HZ.out hK] at HCB
    have HLAW := Lib.hid (fun hab => doI_swaps (R := R) (q := q) (n := n0) (K := K) (other := other) HZ.out hK hab)
    have HZS := Lib.hid (swR_z HZ.out hK)
    rw [HI.out] at HLAW
    generalize hd R q K = a at *
    generalize hd R q (K + 1) = b at *
    have k0 : (0 : Int) ≤ (K : Int) := by omega
    have k1 : (K : Int) < (n0 : Int) := by omega
    have k2 : (K : Int) + 1 < (n0 : Int) := by omega
    have k3 : (0 : Int) ≤ (K : Int) + 1 := by omega
    have kw : IntKind.i64.wrap ((K : Int) + 1) = (K : Int) + 1 := IntWalk.i64_in _ (by omega)
    have kt : ((K : Int) + 1).toNat = K + 1 := by omega
    go_cut [12, 13] (fun b' e' wx => b' = .bool a ∧ e' = .nilIface ∧ Fr [] (qW W q) wx)
    case first =>
      have HFD := Lib.hid (show Fr [] (qW W q) w2.drew from HF2.out.drew)
      obtain ⟨x0, x1', x2, x3, x4, x5⟩ := qbox q HF2.out
      obtain ⟨⟨r0, _⟩, _, _⟩ := HCL.out _ (qF HF2.out)
      go_region_held3 (fun w4 => (w4.cell? ⟨W.heap.size, 0, none⟩ = some (.slice q.na q.nl q.nc)) ∧ (w4.cell? ⟨W.heap.size, 1, none⟩ = some (.int .i64 q.ty)) ∧ (w4.cell? ⟨W.heap.size, 2, none⟩ = some (.int .i64 q.cl)) ∧ (w4.cell? ⟨W.heap.size, 3, none⟩ = some (.int .i64 q.opc)) ∧ (w4.cell? ⟨W.heap.size, 4, none⟩ = some (.bool q.rd)) ∧ (w4.cell? ⟨W.heap.size, 5, none⟩ = some (.slice q.fa q.fl q.fc)) ∧ (w4.cell? ⟨bb, oo + K * 2, none⟩ = some (.slice (R K).a (R K).n (R K).c)))
        (first | exact ⟨x0, x1', x2, x3, x4, x5, r0⟩ | (obtain ⟨y0, y1, y2, y3, y4, y5⟩ := qbox q HX.out; exact ⟨y0, y1, y2, y3, y4, y5, (HCL.out _ (qF HX.out)).1.1⟩) | fail)
        (first
          | (go_at_call 30; (with_reducible refine (HCA.out _ (qF HFD.out)).mono ?_); rintro e wx ⟨rfl, hfx⟩; have HX := Lib.hid (HFD.out.trans hfx (by simp)))
          | fail)
      all_goals (go_wp2_with fail; go_meet)
      all_goals exact ⟨rfl, rfl, HX.out⟩
    case rest =>
      obtain ⟨rfl, rfl, hfc⟩ := hcut
      have HF3 := Lib.hid hfc
      clear hfc
      obtain ⟨w3, rfl⟩ : ∃ w3 : World, w3 = wc := ⟨_, rfl⟩
      go_upto_region 8 with fail
      go_cut [14, 15] (fun b' e' wx => b' = .bool b ∧ e' = .nilIface ∧ Fr [] (qW W q) wx)
      case first =>
        have HFD := Lib.hid (show Fr [] (qW W q) w3.drew from HF3.out.drew)
        obtain ⟨x0, x1', x2, x3, x4, x5⟩ := qbox q HF3.out
        obtain ⟨_, ⟨r0, _⟩, _⟩ := HCL.out _ (qF HF3.out)
        go_region_held3 (fun w4 => (w4.cell? ⟨W.heap.size, 0, none⟩ = some (.slice q.na q.nl q.nc)) ∧ (w4.cell? ⟨W.heap.size, 1, none⟩ = some (.int .i64 q.ty)) ∧ (w4.cell? ⟨W.heap.size, 2, none⟩ = some (.int .i64 q.cl)) ∧ (w4.cell? ⟨W.heap.size, 3, none⟩ = some (.int .i64 q.opc)) ∧ (w4.cell? ⟨W.heap.size, 4, none⟩ = some (.bool q.rd)) ∧ (w4.cell? ⟨W.heap.size, 5, none⟩ = some (.slice q.fa q.fl q.fc)) ∧ (w4.cell? ⟨bb, oo + (K + 1) * 2, none⟩ = some (.slice (R (K + 1)).a (R (K + 1)).n (R (K + 1)).c)))
          (first | exact ⟨x0, x1', x2, x3, x4, x5, r0⟩ | (obtain ⟨y0, y1, y2, y3, y4, y5⟩ := qbox q HX.out; exact ⟨y0, y1, y2, y3, y4, y5, (HCL.out _ (qF HX.out)).2.1.1⟩) | fail)
          (first
            | (go_at_call 30; (with_reducible refine (HCB.out _ (qF HFD.out)).mono ?_); rintro e wx ⟨rfl, hfx⟩; have HX := Lib.hid (HFD.out.trans hfx (by simp)))
            | fail)
        all_goals (go_wp2_with fail; go_meet)
        all_goals exact ⟨rfl, rfl, HX.out⟩
      case rest =>
        obtain ⟨rfl, rfl, hfc⟩ := hcut
        have HF4 := Lib.hid hfc
        clear hfc
        obtain ⟨w4, rfl⟩ : ∃ w4 : World, w4 = wc := ⟨_, rfl⟩
        go_upto_region 11 with fail
        go_cut [86] (fun v wx => v = .bool (a && b && decide ((R K).act ≠ (R (K + 1)).act)) ∧ ∃ nq, wx = w4.drewN nq)
        case first =>
          obtain ⟨⟨_, r1⟩, ⟨_, s1⟩, _⟩ := HCL.out _ (qF HF4.out)
          clear HCL HLAW
          cases a
          · go_quiet (fail)
            go_wp2_with fail
            go_meet
            exact ⟨rfl, nq, rfl⟩
          · cases b
            · go_quiet (fail)
              go_wp2_with fail
              go_meet
              exact ⟨rfl, nq, rfl⟩
            · generalize (R K).act = u at *
              generalize (R (K + 1)).act = v at *
              go_quiet (fail)
              go_wp2_with fail
              go_meet
              refine ⟨?_, nq, rfl⟩
              by_cases h : u = v
              · subst h; simp
              · simp [h]
        case rest =>
          obtain ⟨rfl, nq, rfl⟩ := hcut
          have HF5 := Lib.hid (HF4.out.drewN nq)
          clear HF4 HF3 HF2
          generalize w4.drewN nq = w5 at *
          by_cases hdif : (a && b && decide ((R K).act ≠ (R (K + 1)).act)) = true
          · rw [hdif]
            clear hdif
            go_wp2
            go_ret
            exact ⟨rfl, qF HF5.out⟩
          · have hdf : (a && b && decide ((R K).act ≠ (R (K + 1)).act)) = false := by simpa using hdif
            rw [hdf]
            have HX2 := Lib.hid (HLAW.out (fun ha hb => by
              rw [ha, hb] at hdf
              simpa using hdf))
            clear hdf hdif HLAW
            clear HCA HCB HHO HHN HZ HDO
            obtain ⟨⟨r0, r1⟩, ⟨s0, s1⟩, hbw⟩ := HCL.out _ (qF HF5.out)
            have hsz5 := HF5.out.size
            have hsq : W.heap.size + 1 ≤ w5.heap.size := by simp [qW] at hsz5; omega
            have HONE := Lib.hid (fun (m j : Nat) (_ : j < m) => rl_one R j)
            have HO0 := Lib.hid ((rowc_made (w := w5) (E := 61) (s := 2) (F := fun j => (R j).F)))
            have HFA := Lib.hid (show Fr [] (qW W q) (w5.alloc (.cells #[] 61)) from HF5.out.alloc _)
            go_upto_region 14 with (at_builtin; refine wpList_appC rfl (.tmp 87) (.tmp 88) 58 rfl 61 infoRule Try.underlying58 rfl (by decide) (HONE.out _) HO0.out rfl (H0.out.fr (qF HFA.out)).rd rfl (by unfold maxLen; omega) (by omega) (by simp) ?_; intro v6 w6 ho6 hf6 hn6; have HF6 := Lib.hid (show Fr [] (qW W q) w6 from HFA.out.trans hf6 (fun x hx => .inr (by simp [Value.ownBlock] at hx; omega))); have HO6 := Lib.hid (show OwnC w6 w5.heap.size 61 v6 2 n0 (fun j => (R j).F) from by { rw [Nat.zero_add] at ho6; exact ho6.congr (by decide) (fun i c _ _ => rfl) }); clear ho6 hf6 hn6; obtain ⟨g, cap, hv6, hge, hrow⟩ := HO6.out.row (by omega); subst hv6; have HROW := Lib.hid hrow; clear HO6 hrow)
            obtain ⟨⟨r0', r1'⟩, ⟨s0', s1'⟩, hbw'⟩ := HCL.out _ (qF HF6.out)
            obtain ⟨w7, hw7⟩ : ∃ w7, (w6.setCell ⟨g, K * 2, none⟩ (.slice (R (K + 1)).a (R (K + 1)).n (R (K + 1)).c)).setCell ⟨g, K * 2 + 1, none⟩ (.int .i64 (R (K + 1)).act) = w7 := ⟨_, rfl⟩
            obtain ⟨⟨m0, n0'⟩, ⟨m1, n1'⟩, hrow7, f7⟩ := HROW.out.stored2 K (by omega) _ _ hw7
            have HROW7 := Lib.hid hrow7
            have F7 := Lib.hid f7
            clear hrow7 f7
            have HF7 := Lib.hid (show Fr [] (qW W q) w7 from HF6.out.trans F7.out (fun x hx => .inr (by simp at hx; omega)))
            obtain ⟨⟨t0, t1⟩, _, _⟩ := HCL.out _ (qF HF7.out)
            obtain ⟨w8, hw8⟩ : ∃ w8, (w7.setCell ⟨g, (K + 1) * 2, none⟩ (.slice (R K).a (R K).n (R K).c)).setCell ⟨g, (K + 1) * 2 + 1, none⟩ (.int .i64 (R K).act) = w8 := ⟨_, rfl⟩
            obtain ⟨⟨p0, q0'⟩, ⟨p1, q1'⟩, hrow8, f8⟩ := HROW7.out.stored2 (K + 1) hK _ _ hw8
            have HF8 := Lib.hid (show Fr [] (qW W q) w8 from HF7.out.trans f8 (fun x hx => .inr (by simp at hx; omega)))
            have HRLS := Lib.hid (show Rls w8 (some ⟨g, 0, none⟩) n0 cap (swR K R) from ⟨hrow8.rd.congr (by decide) (fun i c hi hc => by
              unfold swR
              by_cases e2 : i = K + 1
              · rw [if_pos e2]
                by_cases e1 : i = K
                · omega
                · rw [if_neg e1, if_pos e2]
                  match c, hc with
                  | 0, _ => rfl
                  | 1, _ => rfl
              · rw [if_neg e2]
                by_cases e1 : i = K
                · rw [if_pos e1, if_pos e1]
                  match c, hc with
                  | 0, _ => rfl
                  | 1, _ => rfl
                · rw [if_neg e1, if_neg e1, if_neg e2]), fun j hj => by
              have hok : ∀ i, i < n0 → (R i).Ok w8 := fun i hi => (H0.out.ok i hi).fr (qF HF8.out)
              unfold swR
              by_cases e1 : j = K
              · rw [if_pos e1]; exact hok _ hK
              · rw [if_neg e1]
                by_cases e2 : j = K + 1
                · rw [if_pos e2]; exact hok _ (by omega)
                · rw [if_neg e2]; exact hok _ hj, ⟨hrow8.le, hrow8.cap_le⟩⟩)
            have HDO := Lib.hid (do_all HRLS.out (HQ.out.fr (qF HF8.out)) other w8 (Fr.refl _ _))
            rw [HX2.out, show erVn (chZ (swR K R) n0) = .nilIface from erV0 HZS.out] at HDO
            obtain ⟨x0, x1', x2, x3, x4, x5⟩ := qbox q HF8.out
            clear hrow8 f8
            go_wp2_with (go_at_call 31; refine HDO.out.mono ?_; rintro e w9 ⟨rfl, hf9⟩)
            go_ret
            exact ⟨rfl, (qF HF8.out).trans hf9 (by simp)⟩

end Go.Proofs.Ytgpfkaiinbncnaa
