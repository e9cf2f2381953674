/- The reference's OptOf: what a message tells of itself. -/
import Derived.Test.YtkdmkpdooiacaaaDoorZFindW
import Derived.Test.YtkdmkpdooiacaaaDoorZbase1
namespace Go.Proofs.YtkdmkpdooiacaaaDoor
open Go.RowKit

/-- the one that was found among the first k: none, or one alone -/
def OptAt (M : Nat → Rs) (k : Nat) (v : Value) : Prop :=
  (v = .int .i64 (-1) ∧ optIx M k = k) ∨ ∃ j : Nat, v = .int .i64 j ∧ j < k ∧ optIx M j = j ∧ (M j).ty = 41 ∧ optIx (fun t => M (j + 1 + t)) (k - (j + 1)) = k - (j + 1)

/-- what OptOf leaves -/
def OptOfGood (w : World) (m : Ms) (e : Ending) (w' : World) : Prop :=
  (∃ (sz co ve zz : Int) (has : Bool) (oa : Option Addr) (on oc : Nat), e = .returned (.tuple #[.agg #[.int .i64 sz, .int .i64 co, .int .i64 ve, .bool (optDo m), .int .i64 zz, .slice oa on oc], .bool has, .int .i64 (optZ m)])) ∧ Fr [] w w'

theorem optZ_none {m : Ms} (h : optIx m.M m.mn = m.mn) : optZ m = 0 ∧ optDo m = false := by
  refine ⟨by unfold optZ; rw [if_pos (by omega)], by unfold optDo; rw [decide_eq_false (by omega)]; rfl⟩

theorem optZ_at {m : Ms} {j : Nat} (h1 : optIx m.M m.mn = j) (h2 : j < m.mn) : optZ m = if optIx (fun t => m.M (j + 1 + t)) (m.mn - (j + 1)) < m.mn - (j + 1) then 10 else if recBad (m.M j) then 1 else optsZ (m.M j).dt (m.M j).dl := by
  unfold optZ
  rw [h1, if_neg (by omega)]

theorem optDo_at {m : Ms} {j : Nat} (h1 : optIx m.M m.mn = j) (h2 : j < m.mn) : optDo m = (decide (optZ m = 0) && decide ((m.M j).tt / 32768 % 2 = 1)) := by
  unfold optDo
  rw [h1, decide_eq_true h2, Bool.true_and]

/-- two of them -/
theorem optZ_twice {m : Ms} {j k : Nat} (h0 : optIx m.M j = j) (h41 : (m.M j).ty = 41) (hjk : j < k) (hk : k < m.mn) (h1 : optIx (fun t => m.M (j + 1 + t)) (k - (j + 1)) = k - (j + 1)) (h2 : (m.M k).ty = 41) : optZ m = 10 ∧ optDo m = false := by
  have e1 : optIx m.M m.mn = j := optIx_hit (by omega) h0 h41
  have e2 : optIx (fun t => m.M (j + 1 + t)) (m.mn - (j + 1)) = k - (j + 1) := optIx_hit (R := fun t => m.M (j + 1 + t)) (by omega) h1 (by
    show (m.M (j + 1 + (k - (j + 1)))).ty = 41
    rw [show j + 1 + (k - (j + 1)) = k by omega]
    exact h2)
  have e3 : optZ m = 10 := by rw [optZ_at e1 (by omega), e2, if_pos (by omega)]
  exact ⟨e3, by rw [optDo_at e1 (by omega), e3]; rfl⟩

/-- a load that is not to be taken first -/
def OLoad (t : TypeId) (x : Operand) : Op := .load t x
theorem hideOLoad (t : TypeId) : Op.load t (.tmp 111) = OLoad t (.tmp 111) := rfl
attribute [local go_sem] OLoad

/-- the second loop: p bytes are taken; o's block, r's and the result's -/
def OoLp (w : World) (rb ob r0 : Nat) (cr : Array Value) (x0 x1 x2 x3 x4 : Value) (dl : Nat) (dt : Nat → Int) (p : Nat) (wr : World) : Prop :=
  ∃ (cnt : Nat) (v : Value) (F : Nat → Nat → Value), p ≤ dl ∧ 4 * cnt ≤ p ∧ wr.heap[ob]? = some (.cells #[x0, x1, x2, x3, x4, v] 68 (0, 0)) ∧ OwnC wr w.heap.size 96 v 2 cnt F ∧ optsOk dt 0 dl = optsOk dt p dl ∧
    wr.heap[rb]? = some (.cells cr 60 (0, 0)) ∧ wr.heap[r0]? = some (.cells #[.int .i64 0, .int .i64 0, .int .i64 0, .bool false, .int .i64 0, .slice none 0 0] 68 (0, 0)) ∧ Fr [] w wr

set_option maxHeartbeats 8000000 in
set_option maxRecDepth 100000 in
theorem optOf_any (w : World) (B : HB) (m : Ms) (vq va vu vm : Value) (hm : MsOk B w m vq va vu vm) (hsm : ∀ i, i < m.mn → (m.M i).dl ≤ 1099511627776) :
    Calls Tryd.prog 17 #[msgV m.h vq va vu vm] w (OptOfGood w m) := by
  obtain ⟨_, hm1⟩ := hm.hq
  obtain ⟨_, hm2⟩ := hm.ha
  obtain ⟨_, hm3⟩ := hm.hu
  obtain ⟨FM, hM⟩ := hm.hm
  obtain ⟨mb, mc, rfl⟩ := hm1.rd.slice
  obtain ⟨ab, ac, rfl⟩ := hm2.rd.slice
  obtain ⟨ub, uc, rfl⟩ := hm3.rd.slice
  obtain ⟨nb, nc, rfl⟩ := hM.rd.slice
  have HM := Lib.hid hM
  have HSM := Lib.hid hsm
  have hnb := hM.nb
  have HN0 := Lib.hid (fun h => optZ_none (m := m) h)
  have HN1 := Lib.hid (fun j (h1 : optIx m.M m.mn = j) h2 => optZ_at h1 h2)
  have HN2 := Lib.hid (fun j (h1 : optIx m.M m.mn = j) h2 => optDo_at h1 h2)
  have HN3 := Lib.hid (fun j k h0 h41 hjk hk h1 h2 => optZ_twice (m := m) (j := j) (k := k) h0 h41 hjk hk h1 h2)
  clear hm hm1 hm2 hm3 hM hsm
  unfold OptOfGood
  generalize optZ m = Z at *
  generalize optDo m = D at *
  generalize m.h = h at *
  generalize m.qn = nq at *
  generalize m.an = na at *
  generalize m.un = nu at *
  generalize m.M = MM at *
  generalize m.mn = nm at *
  obtain ⟨h0, h1, h2, h3, h4, h5, h6, h7, h8, h9, h10⟩ := h
  simp only [msgV]
  go_enter Tryd.func17, Tryd.ntmps17
  go_wp2_with fail
  obtain ⟨hb0, hb1⟩ := two_new' w (.cells #[.int .i64 h0, .bool h1, .int .i64 h2, .bool h3, .bool h4, .bool h5, .bool h6, .bool h7, .bool h8, .bool h9, .int .i64 h10, .slice mb nq mc, .slice ab na ac, .slice ub nu uc, .slice nb nm nc] 43) (.cells #[.int .i64 0, .int .i64 0, .int .i64 0, .bool false, .int .i64 0, .slice none 0 0] 68)
  have HB1 := Lib.hid hb1
  have HB0 := Lib.hid hb0
  have HF2 := Lib.hid (show Fr [] w ((w.alloc (.cells #[.int .i64 h0, .bool h1, .int .i64 h2, .bool h3, .bool h4, .bool h5, .bool h6, .bool h7, .bool h8, .bool h9, .int .i64 h10, .slice mb nq mc, .slice ab na ac, .slice ub nu uc, .slice nb nm nc] 43)).alloc (.cells #[.int .i64 0, .int .i64 0, .int .i64 0, .bool false, .int .i64 0, .slice none 0 0] 68)) from ((Fr.refl [] w).alloc _).alloc _)
  clear hb0 hb1
  generalize (w.alloc (.cells #[.int .i64 h0, .bool h1, .int .i64 h2, .bool h3, .bool h4, .bool h5, .bool h6, .bool h7, .bool h8, .bool h9, .int .i64 h10, .slice mb nq mc, .slice ab na ac, .slice ub nu uc, .slice nb nm nc] 43)).alloc (.cells #[.int .i64 0, .int .i64 0, .int .i64 0, .bool false, .int .i64 0, .slice none 0 0] 68) = W2 at *
  have m14 : W2.cell? ⟨w.heap.size, 14, none⟩ = some (.slice nb nm nc) := blk_cell HB0.out 14 rfl
  have HRETZ := Lib.hid (fun (q : Nat) => show (W2.drewN q).heap = W2.heap from rfl)
  go_loopw [5, 6] (fun va vi wr => ∃ k : Nat, k ≤ nm ∧ vi = .int .i64 k ∧ OptAt MM k va ∧ wr = W2) (fun _ vi _ => nm - (intOf vi).toNat)
  case atStart => exact ⟨0, by omega, rfl, .inl ⟨rfl, rfl⟩, rfl⟩
  case round =>
    obtain ⟨k, hk, rfl, hat, rfl⟩ := hrel
    have HAT := Lib.hid hat
    clear hat
    by_cases hlt : k < nm
    · obtain ⟨b1, o1, c1, he1, _, _, _, hc1⟩ := (HM.out.rd.fr HF2.out).shape (by omega) (by decide)
      simp only [Value.slice.injEq, true_and] at he1
      obtain ⟨rfl, rfl⟩ := he1
      obtain ⟨na', nc', da, dc, hF, _⟩ := HM.out.at_ k hlt
      have k1 := hc1 k 1 hlt (by decide)
      rw [hF 1 (by decide)] at k1
      simp only [Rs.F] at k1
      clear hc1 hF
      have k0 : (0 : Int) ≤ (k : Int) := by omega
      have k9 : (k : Int) < (nm : Int) := by omega
      by_cases h41 : (MM k).ty = 41
      · have hty : ((MM k).ty == 41) = true := by simp [h41]
        have HH := Lib.hid h41
        clear h41
        rcases HAT.out with ⟨rfl, hnone⟩ | ⟨j, rfl, hj1, hj2, hj3, hj4⟩
        · have HNN := Lib.hid hnone
          clear hnone
          go_wp2_with fail
          go_roundw
          case rel => exact ⟨k + 1, by omega, by go_num, .inr ⟨k, rfl, by omega, HNN.out, HH.out, by rw [Nat.sub_self]; rfl⟩, by first | trivial | rfl⟩
          case measure => (simp [intOf] <;> omega)
        · have HZ := Lib.hid (HN3.out j k hj2 hj3 hj1 hlt hj4 HH.out)
          have hj0 : (0 : Int) ≤ (j : Int) := by omega
          clear hj2 hj3 hj4
          obtain ⟨x0, x1, x2, x3, x4, x5⟩ := six_cells HB1.out
          have hz : ∀ j, wr.frozen? ⟨w.heap.size + 1, j, none⟩ = false := fun j => blk_frozen HB1.out j
          go_wp2_with fail
          have HBF := Lib.hid (setCells_all (w := wr) (p := w.heap.size + 1) [.int .i64 0, .int .i64 0, .int .i64 0, .bool false, .int .i64 0, .slice none 0 0] HB1.out rfl)
          have HFF := Lib.hid (setCells_fr (p := w.heap.size + 1) [.int .i64 0, .int .i64 0, .int .i64 0, .bool false, .int .i64 0, .slice none 0 0] 0 wr)
          change bodyPost _ _ _ _ _ (wr.setCells (w.heap.size + 1) 0 [.int .i64 0, .int .i64 0, .int .i64 0, .bool false, .int .i64 0, .slice none 0 0])
          generalize wr.setCells (w.heap.size + 1) 0 [.int .i64 0, .int .i64 0, .int .i64 0, .bool false, .int .i64 0, .slice none 0 0] = wF at *
          obtain ⟨r0, r1, r2, r3, r4, r5⟩ := six_cells HBF.out
          refine bodyPost_ret (v := .tuple #[.agg #[.int .i64 0, .int .i64 0, .int .i64 0, .bool false, .int .i64 0, .slice none 0 0], .bool false, .int .i64 10]) (by simp [results, Tryd.results17, go_sem, r0, r1, r2, r3, r4, r5]) rfl ?_
          exact ⟨⟨0, 0, 0, 0, false, none, 0, 0, by rw [HZ.out.1, HZ.out.2]⟩, HF2.out.trans HFF.out (fun x hx => by simp only [List.mem_singleton] at hx; exact .inr (by omega))⟩
      · have hty : ((MM k).ty == 41) = false := by simp [h41]
        have HH := Lib.hid h41
        clear h41
        go_wp2_with fail
        go_roundw
        case rel =>
          refine ⟨k + 1, by omega, by go_num, ?_, by first | trivial | rfl⟩
          rcases HAT.out with ⟨rfl, hnone⟩ | ⟨j, rfl, hj1, hj2, hj3, hj4⟩
          · exact .inl ⟨rfl, optIx_miss hnone HH.out⟩
          · refine .inr ⟨j, rfl, by omega, hj2, hj3, ?_⟩
            rw [show k + 1 - (j + 1) = (k - (j + 1)) + 1 by omega]
            refine optIx_miss hj4 ?_
            show (MM (j + 1 + (k - (j + 1)))).ty ≠ 41
            rw [show j + 1 + (k - (j + 1)) = k by omega]
            exact HH.out
        case measure => (simp [intOf] <;> omega)
    · obtain rfl : k = nm := by omega
      rcases HAT.out with ⟨rfl, hnone⟩ | ⟨j, rfl, hj1, hj2, hj3, hj4⟩
      · have HZ := Lib.hid (HN0.out hnone)
        clear hnone
        obtain ⟨x0, x1, x2, x3, x4, x5⟩ := six_cells HB1.out
        have hz : ∀ j, (wr).frozen? ⟨w.heap.size + 1, j, none⟩ = false := fun j => blk_frozen HB1.out j
        go_wp2_with fail
        have HBF := Lib.hid (setCells_all (w := wr) (p := w.heap.size + 1) [.int .i64 0, .int .i64 0, .int .i64 0, .bool false, .int .i64 0, .slice none 0 0] HB1.out rfl)
        have HFF := Lib.hid (setCells_fr (p := w.heap.size + 1) [.int .i64 0, .int .i64 0, .int .i64 0, .bool false, .int .i64 0, .slice none 0 0] 0 (wr))
        change bodyPost _ _ _ _ _ ((wr).setCells (w.heap.size + 1) 0 [.int .i64 0, .int .i64 0, .int .i64 0, .bool false, .int .i64 0, .slice none 0 0])
        generalize (wr).setCells (w.heap.size + 1) 0 [.int .i64 0, .int .i64 0, .int .i64 0, .bool false, .int .i64 0, .slice none 0 0] = wF at *
        obtain ⟨r0, r1, r2, r3, r4, r5⟩ := six_cells HBF.out
        refine bodyPost_ret (v := .tuple #[.agg #[.int .i64 0, .int .i64 0, .int .i64 0, .bool false, .int .i64 0, .slice none 0 0], .bool false, .int .i64 0]) (by simp [results, Tryd.results17, go_sem, r0, r1, r2, r3, r4, r5]) rfl ?_
        exact ⟨⟨0, 0, 0, 0, false, none, 0, 0, by rw [HZ.out.1, HZ.out.2]⟩, HF2.out.trans HFF.out (fun x hx => by simp only [List.mem_singleton] at hx; exact .inr (by omega))⟩
      · have HIX := Lib.hid (optIx_hit hj1 hj2 hj3)
        have HZ := Lib.hid ((HN1.out j HIX.out hj1).trans (if_neg (by omega)))
        have HD := Lib.hid (HN2.out j HIX.out hj1)
        clear HN0 HN1 HN2 HN3 hj2 hj3 hj4 HAT hlt
        have hj0 : (0 : Int) ≤ (j : Int) := by omega
        have hj9 : (j : Int) < (k : Int) := by omega
        obtain ⟨b1, o1, c1, he1, _, _, _, hc1⟩ := (HM.out.rd.fr HF2.out).shape (by omega) (by decide)
        simp only [Value.slice.injEq, true_and] at he1
        obtain ⟨rfl, rfl⟩ := he1
        obtain ⟨na', nc', da, dc, hF, hok⟩ := HM.out.at_ j hj1
        have hwf := HM.out.wf j hj1
        have k1 := hc1 j 0 hj1 (by decide)
        have k2 := hc1 j 1 hj1 (by decide)
        have k3 := hc1 j 2 hj1 (by decide)
        have k4 := hc1 j 3 hj1 (by decide)
        have k5 := hc1 j 4 hj1 (by decide)
        rw [hF 0 (by decide)] at k1
        rw [hF 1 (by decide)] at k2
        rw [hF 2 (by decide)] at k3
        rw [hF 3 (by decide)] at k4
        rw [hF 4 (by decide)] at k5
        simp only [Rs.F, Nat.add_zero] at k1 k2 k3 k4 k5
        have HDT := Lib.hid hok.rdd
        have HDB := Lib.hid hwf.dt0
        have ht0 := hwf.tt0
        have hc0 := hwf.cl0
        have hdl := HSM.out j hj1
        clear hc1 hF hok hwf HM HSM
        have HRB := Lib.hid (show recBad (MM j) ↔ (0 < (MM j).nl ∨ (MM j).cl < 0 ∨ 65535 < (MM j).cl ∨ (MM j).tt < 0 ∨ 4294967295 < (MM j).tt) from Iff.rfl)
        have HOZ := Lib.hid (show optsZ (MM j).dt (MM j).dl = if optsOk (MM j).dt 0 (MM j).dl = true then 0 else 1 from rfl)
        generalize (MM j).ty = ty at *
        generalize (MM j).cl = cl at *
        generalize (MM j).tt = tl at *
        generalize (MM j).nl = nl at *
        generalize (MM j).dl = dl at *
        generalize (MM j).dt = dt at *
        generalize optsZ dt dl = oz at *
        generalize hrb : decide (recBad (MM j)) = rb at *
        have HRBB := Lib.hid hrb
        clear hrb
        have HBR := Lib.hid (heap_alloc_new wr (.cells #[.slice na' nl nc', .int .i64 ty, .int .i64 cl, .int .i64 tl, .slice da dl dc] 60))
        have HFA := Lib.hid (show Fr [] wr (wr.alloc (.cells #[.slice na' nl nc', .int .i64 ty, .int .i64 cl, .int .i64 tl, .slice da dl dc] 60)) from (Fr.refl _ _).alloc _)
        have hsA : (wr.alloc (.cells #[.slice na' nl nc', .int .i64 ty, .int .i64 cl, .int .i64 tl, .slice da dl dc] 60)).heap.size = wr.heap.size + 1 := by simp
        go_upto_region 12 with fail
        generalize wr.alloc (.cells #[.slice na' nl nc', .int .i64 ty, .int .i64 cl, .int .i64 tl, .slice da dl dc] 60) = wA at *
        have HBA := Lib.hid (HFA.out.blk HB1.out (by simp))
        have HFAX := Lib.hid (HF2.out.trans HFA.out (by simp))
        clear k1 k2 k3 k4 k5 m14
        have k0 : wA.cell? ⟨wr.heap.size, 0, none⟩ = some (.slice na' nl nc') := blk_cell HBR.out 0 rfl
        have k2 : wA.cell? ⟨wr.heap.size, 2, none⟩ = some (.int .i64 cl) := blk_cell HBR.out 2 rfl
        have k3 : wA.cell? ⟨wr.heap.size, 3, none⟩ = some (.int .i64 tl) := blk_cell HBR.out 3 rfl
        go_cut [60] (fun v wy => v = .bool rb ∧ wy = wA)
        case first =>
          by_cases c0 : 0 < nl
          · have hrb : rb = true := by rw [← HRBB.out]; exact decide_eq_true (HRB.out.2 (.inl c0))
            have c0' : (0 : Int) < (nl : Int) := by omega
            go_wp2_with fail
            go_meet
            exact ⟨by rw [hrb], rfl⟩
          have c0' : ¬ (0 : Int) < (nl : Int) := by omega
          by_cases c1 : cl < 0
          · have hrb : rb = true := by rw [← HRBB.out]; exact decide_eq_true (HRB.out.2 (.inr (.inl c1)))
            go_wp2_with fail
            go_meet
            exact ⟨by rw [hrb], rfl⟩
          by_cases c2 : 65535 < cl
          · have hrb : rb = true := by rw [← HRBB.out]; exact decide_eq_true (HRB.out.2 (.inr (.inr (.inl c2))))
            go_wp2_with fail
            go_meet
            exact ⟨by rw [hrb], rfl⟩
          by_cases c3 : tl < 0
          · have hrb : rb = true := by rw [← HRBB.out]; exact decide_eq_true (HRB.out.2 (.inr (.inr (.inr (.inl c3)))))
            go_wp2_with fail
            go_meet
            exact ⟨by rw [hrb], rfl⟩
          by_cases c4 : 4294967295 < tl
          · have hrb : rb = true := by rw [← HRBB.out]; exact decide_eq_true (HRB.out.2 (.inr (.inr (.inr (.inr c4)))))
            go_wp2_with fail
            go_meet
            exact ⟨by rw [hrb], rfl⟩
          · have hrb : rb = false := by rw [← HRBB.out]; exact decide_eq_false (fun h => by have := HRB.out.1 h; omega)
            go_wp2_with fail
            go_meet
            exact ⟨by rw [hrb], rfl⟩
        case rest =>
          obtain ⟨rfl, hw⟩ := hcut
          replace hw := hw.symm
          subst hw
          cases rb
          case true =>
            have HZ3 := Lib.hid (HZ.out.trans (if_pos (of_decide_eq_true HRBB.out)))
            have HD2 := Lib.hid (show D = false by rw [HD.out, HZ3.out]; rfl)
            clear HZ HD HRB HRBB HOZ k0 k2 k3
            obtain ⟨x0, x1, x2, x3, x4, x5⟩ := six_cells HBA.out
            have hz : ∀ j, (wA).frozen? ⟨w.heap.size + 1, j, none⟩ = false := fun j => blk_frozen HBA.out j
            go_wp2_with fail
            have HBF := Lib.hid (setCells_all (w := wA) (p := w.heap.size + 1) [.int .i64 0, .int .i64 0, .int .i64 0, .bool false, .int .i64 0, .slice none 0 0] HBA.out rfl)
            have HFF := Lib.hid (setCells_fr (p := w.heap.size + 1) [.int .i64 0, .int .i64 0, .int .i64 0, .bool false, .int .i64 0, .slice none 0 0] 0 (wA))
            change bodyPost _ _ _ _ _ ((wA).setCells (w.heap.size + 1) 0 [.int .i64 0, .int .i64 0, .int .i64 0, .bool false, .int .i64 0, .slice none 0 0])
            generalize (wA).setCells (w.heap.size + 1) 0 [.int .i64 0, .int .i64 0, .int .i64 0, .bool false, .int .i64 0, .slice none 0 0] = wF at *
            obtain ⟨r0, r1, r2, r3, r4, r5⟩ := six_cells HBF.out
            refine bodyPost_ret (v := .tuple #[.agg #[.int .i64 0, .int .i64 0, .int .i64 0, .bool false, .int .i64 0, .slice none 0 0], .bool false, .int .i64 1]) (by simp [results, Tryd.results17, go_sem, r0, r1, r2, r3, r4, r5]) rfl ?_
            exact ⟨⟨0, 0, 0, 0, false, none, 0, 0, by rw [HZ3.out, HD2.out]⟩, HFAX.out.trans HFF.out (fun x hx => by simp only [List.mem_singleton] at hx; exact .inr (by omega))⟩
          have HZ3 := Lib.hid (HZ.out.trans (if_neg (of_decide_eq_false HRBB.out)))
          have HDD := Lib.hid HD.out
          have HDX := HD
          clear HD
          have hnb : ¬ (0 < nl ∨ cl < 0 ∨ 65535 < cl ∨ tl < 0 ∨ 4294967295 < tl) := fun h => (of_decide_eq_false HRBB.out) (HRB.out.2 h)
          have t1 : 0 ≤ tl := by omega
          have t2 : tl ≤ 4294967295 := by omega
          clear HZ HRB HRBB hnb k0
          have hBN := heap_alloc_new wA (.cells #[.int .i64 cl, .int .i64 (tl / 16777216), .int .i64 (tl / 65536 % 256), .bool (tl / 32768 % 2 == 1), .int .i64 (tl % 32768), .slice none 0 0] 68)
          have HST : Hid (OoLp w wr.heap.size (wr.heap.size + 1) (w.heap.size + 1) #[.slice na' nl nc', .int .i64 ty, .int .i64 cl, .int .i64 tl, .slice da dl dc] (.int .i64 cl) (.int .i64 (tl / 16777216)) (.int .i64 (tl / 65536 % 256)) (.bool (tl / 32768 % 2 == 1)) (.int .i64 (tl % 32768)) dl dt 0 (wA.alloc (.cells #[.int .i64 cl, .int .i64 (tl / 16777216), .int .i64 (tl / 65536 % 256), .bool (tl / 32768 % 2 == 1), .int .i64 (tl % 32768), .slice none 0 0] 68))) :=
            ⟨0, .slice none 0 0, fun _ _ => undef, Nat.zero_le _, by omega, by rw [hsA] at hBN; exact hBN, OwnC.nil _ _ _ _ _, rfl, ((Fr.refl [] wA).alloc _).blk HBR.out (by simp), ((Fr.refl [] wA).alloc _).blk HBA.out (by simp), HFAX.out.alloc _⟩
          clear hBN
          go_wp2_with fail
          generalize wA.alloc (.cells #[.int .i64 cl, .int .i64 (tl / 16777216), .int .i64 (tl / 65536 % 256), .bool (tl / 32768 % 2 == 1), .int .i64 (tl % 32768), .slice none 0 0] 68) = wB at *
          have hRB0 : w.heap.size + 1 < wr.heap.size := lt_of_blk HB1.out
          have hRBN : wr.heap.size ≠ wr.heap.size + 1 := by omega
          clear HFA HFAX HBA HBR HB1 HF2 HRETZ hsA k2 k3 HDX
          generalize wr.heap.size = RB at *
          go_loopw [9] (fun vp w4 => ∃ p : Nat, vp = .int .i64 p ∧ OoLp w RB (RB + 1) (w.heap.size + 1) #[.slice na' nl nc', .int .i64 ty, .int .i64 cl, .int .i64 tl, .slice da dl dc] (.int .i64 cl) (.int .i64 (tl / 16777216)) (.int .i64 (tl / 65536 % 256)) (.bool (tl / 32768 % 2 == 1)) (.int .i64 (tl % 32768)) dl dt p w4) (fun vp _ => dl - (intOf vp).toNat)
          case atStart => exact ⟨0, rfl, HST.out⟩
          case round =>
            obtain ⟨p, rfl, cnt, v, F, hp, hcnt, hob, hov, hopt, hrb, hr0, hfr⟩ := hrel
            obtain ⟨va, vc, rfl⟩ := hov.rd.slice
            have HOB := Lib.hid hob
            have HOV := Lib.hid hov
            have HOPT := Lib.hid (hopt.trans (optsOk_step dt p dl))
            have HRB := Lib.hid hrb
            have HR0 := Lib.hid hr0
            have HFR := Lib.hid hfr
            clear hob hov hopt hrb hr0 hfr HST
            have d4 : wr.cell? ⟨RB, 4, none⟩ = some (.slice da dl dc) := blk_cell HRB.out 4 rfl
            have HD := Lib.hid (HDT.out.fr HFR.out (by simp))
            have p0 : (0 : Int) ≤ (p : Int) := by omega
            by_cases hpd : p = dl
            · subst hpd
              have e1 : optsOk dt 0 p = true := by rw [HOPT.out, if_pos (Nat.le_refl _)]
              have HZ4 := Lib.hid (show Z = 0 by rw [HZ3.out, HOZ.out, if_pos e1])
              have HD2 := Lib.hid (show D = (tl / 32768 % 2 == 1) by rw [HDD.out, HZ4.out]; simp; rfl)
              clear e1 HZ3 HDD HOPT HOZ
              obtain ⟨o0, o1', o2, o3, o4, o5⟩ := six_cells HOB.out
              obtain ⟨x0, x1, x2, x3, x4, x5⟩ := six_cells HR0.out
              have hz : ∀ j, (wr).frozen? ⟨w.heap.size + 1, j, none⟩ = false := fun j => blk_frozen HR0.out j
              go_wp2_with fail
              have HBF := Lib.hid (setCells_all (w := wr) (p := w.heap.size + 1) [.int .i64 cl, .int .i64 (tl / 16777216), .int .i64 (tl / 65536 % 256), .bool (tl / 32768 % 2 == 1), .int .i64 (tl % 32768), .slice va cnt vc] HR0.out rfl)
              have HFF := Lib.hid (setCells_fr (p := w.heap.size + 1) [.int .i64 cl, .int .i64 (tl / 16777216), .int .i64 (tl / 65536 % 256), .bool (tl / 32768 % 2 == 1), .int .i64 (tl % 32768), .slice va cnt vc] 0 (wr))
              change bodyPost _ _ _ _ _ ((wr).setCells (w.heap.size + 1) 0 [.int .i64 cl, .int .i64 (tl / 16777216), .int .i64 (tl / 65536 % 256), .bool (tl / 32768 % 2 == 1), .int .i64 (tl % 32768), .slice va cnt vc])
              generalize (wr).setCells (w.heap.size + 1) 0 [.int .i64 cl, .int .i64 (tl / 16777216), .int .i64 (tl / 65536 % 256), .bool (tl / 32768 % 2 == 1), .int .i64 (tl % 32768), .slice va cnt vc] = wF at *
              obtain ⟨r0, r1, r2, r3, r4, r5⟩ := six_cells HBF.out
              refine bodyPost_ret (v := .tuple #[.agg #[.int .i64 cl, .int .i64 (tl / 16777216), .int .i64 (tl / 65536 % 256), .bool (tl / 32768 % 2 == 1), .int .i64 (tl % 32768), .slice va cnt vc], .bool true, .int .i64 0]) (by simp [results, Tryd.results17, go_sem, r0, r1, r2, r3, r4, r5]) rfl ?_
              exact ⟨⟨_, _, _, _, _, _, _, _, by rw [HZ4.out, HD2.out]⟩, HFR.out.trans HFF.out (fun x hx => by simp only [List.mem_singleton] at hx; exact .inr (by omega))⟩
            · by_cases hp4 : dl < p + 4
              · have e1 : optsOk dt 0 dl = false := by rw [HOPT.out, if_neg (by omega), if_pos hp4]
                have HZ4 := Lib.hid (show Z = 1 by rw [HZ3.out, HOZ.out, e1]; rfl)
                have HD2 := Lib.hid (show D = false by rw [HDD.out, HZ4.out]; rfl)
                clear e1 HZ3 HDD HOPT HOZ
                have l1 : (p : Int) < (dl : Int) := by omega
                have l2 : (dl : Int) < (p : Int) + 4 := by omega
                go_upto_region 17 with fail
                go_cut [104] (fun v wy => v = .bool true ∧ Fr [] wr wy)
                case first =>
                  have d4' : wr.drew.cell? ⟨RB, 4, none⟩ = some (.slice da dl dc) := d4
                  have l3 : decide ((dl : Int) < (p : Int) + 4) = true := by simpa using l2
                  go_quiet (fail)
                  go_wp2_with fail
                  go_meet
                  exact ⟨rfl, (Fr.refl [] wr).drewN nq⟩
                case rest =>
                  obtain ⟨rfl, hfc⟩ := hcut
                  have HRC := Lib.hid (hfc.blk HR0.out (by simp))
                  have HFC := Lib.hid (HFR.out.trans hfc (by simp))
                  clear hfc
                  obtain ⟨x0, x1, x2, x3, x4, x5⟩ := six_cells HRC.out
                  have hz : ∀ j, (wc).frozen? ⟨w.heap.size + 1, j, none⟩ = false := fun j => blk_frozen HRC.out j
                  go_wp2_with fail
                  have HBF := Lib.hid (setCells_all (w := wc) (p := w.heap.size + 1) [.int .i64 0, .int .i64 0, .int .i64 0, .bool false, .int .i64 0, .slice none 0 0] HRC.out rfl)
                  have HFF := Lib.hid (setCells_fr (p := w.heap.size + 1) [.int .i64 0, .int .i64 0, .int .i64 0, .bool false, .int .i64 0, .slice none 0 0] 0 (wc))
                  change bodyPost _ _ _ _ _ ((wc).setCells (w.heap.size + 1) 0 [.int .i64 0, .int .i64 0, .int .i64 0, .bool false, .int .i64 0, .slice none 0 0])
                  generalize (wc).setCells (w.heap.size + 1) 0 [.int .i64 0, .int .i64 0, .int .i64 0, .bool false, .int .i64 0, .slice none 0 0] = wF at *
                  obtain ⟨r0, r1, r2, r3, r4, r5⟩ := six_cells HBF.out
                  refine bodyPost_ret (v := .tuple #[.agg #[.int .i64 0, .int .i64 0, .int .i64 0, .bool false, .int .i64 0, .slice none 0 0], .bool false, .int .i64 1]) (by simp [results, Tryd.results17, go_sem, r0, r1, r2, r3, r4, r5]) rfl ?_
                  exact ⟨⟨0, 0, 0, 0, false, none, 0, 0, by rw [HZ4.out, HD2.out]⟩, HFC.out.trans HFF.out (fun x hx => by simp only [List.mem_singleton] at hx; exact .inr (by omega))⟩
              · have hd0 := HDB.out p (by omega)
                have hd1 := HDB.out (p + 1) (by omega)
                have hd2 := HDB.out (p + 2) (by omega)
                have hd3 := HDB.out (p + 3) (by omega)
                have HP0 := Lib.hid (fun wx (h : Fr [] wr wx) => pairAt_any wx da dl dc p dt (HD.out.fr h (by simp)) (by omega) hd0 hd1 (by omega))
                have HP2 := Lib.hid (fun wx (h : Fr [] wr wx) => pairAt_any wx da dl dc (p + 2) dt (HD.out.fr h (by simp)) (by omega) hd2 hd3 (by omega))
                obtain ⟨E, hE⟩ : ∃ E : Nat, (E : Int) = dt (p + 2) * 256 + dt (p + 2 + 1) := ⟨(dt (p + 2) * 256 + dt (p + 2 + 1)).toNat, by rw [show p + 2 + 1 = p + 3 by omega]; omega⟩
                have hE2 : (dt (p + 2) * 256 + dt (p + 3)).toNat = E := by rw [show p + 3 = p + 2 + 1 by omega]; omega
                rw [hE2] at HOPT
                rw [← hE] at HP2
                have hE5 : E ≤ 65535 := by rw [show p + 2 + 1 = p + 3 by omega] at hE; omega
                clear hE hE2 hd0 hd1 hd2 hd3
                generalize dt p * 256 + dt (p + 1) = CO at *
                have l1 : (p : Int) < (dl : Int) := by omega
                have l2 : ¬ (dl : Int) < (p : Int) + 4 := by omega
                have HP2b := Lib.hid (fun wx (h : Fr [] wr wx) => show Calls Tryd.prog 36 #[.slice da dl dc, .int .i64 ((p : Int) + 2)] wx (fun e w' => e = .returned (.int .i64 (E : Int)) ∧ ∃ q, w' = wx.drewN q) from HP2.out wx h)
                clear HP2
                obtain ⟨tst, htst⟩ : ∃ tst, decide ((dl : Int) < (p : Int) + 4 + (E : Int)) = tst := ⟨_, rfl⟩
                have HTST := Lib.hid htst
                clear htst
                go_upto_region 17 with fail
                go_cut [104] (fun v wy => v = .bool tst ∧ Fr [] wr wy)
                case first =>
                  have d4' : wr.drew.cell? ⟨RB, 4, none⟩ = some (.slice da dl dc) := d4
                  have l3 : decide ((dl : Int) < (p : Int) + 4) = false := by simpa using l2
                  have l4 : (p : Int) + 4 ≤ (dl : Int) := by omega
                  have v1 : IntKind.i64.wrap ((p : Int) + 4) = (p : Int) + 4 := IntWalk.i64_in _ (by omega)
                  have v2 : IntKind.i64.wrap ((p : Int) + 2) = (p : Int) + 2 := IntWalk.i64_in _ (by omega)
                  have v3 : IntKind.i64.wrap ((p : Int) + 4 + (E : Int)) = (p : Int) + 4 + (E : Int) := IntWalk.i64_in _ (by omega)
                  go_quiet ((go_at_call 36; exact Calls.quiet_of (HP2b.out _ (by first | exact (Fr.refl [] wr).drew | exact (Fr.refl [] wr).drewN _ | exact ((Fr.refl [] wr).drew).drewN _))))
                  clear v1 v2 v3
                  go_wp2_with fail
                  go_meet
                  exact ⟨by rw [← HTST.out], (Fr.refl [] wr).drewN nq⟩
                case rest =>
                  obtain ⟨rfl, hfc⟩ := hcut
                  have HFCC := Lib.hid hfc
                  have HRC := Lib.hid (hfc.blk HR0.out (by simp))
                  have HFC := Lib.hid (HFR.out.trans hfc (by simp))
                  clear hfc
                  cases tst with
                  | true =>
                    have e1 : optsOk dt 0 dl = false := by
                      have h := of_decide_eq_true HTST.out
                      rw [HOPT.out, if_neg (by omega), if_neg hp4]
                      have hn : dl < p + 4 + E := by omega
                      first | rw [if_pos hn] | (simp only [hn, if_true, if_pos])
                    have HZ4 := Lib.hid (show Z = 1 by rw [HZ3.out, HOZ.out, e1]; rfl)
                    have HD2 := Lib.hid (show D = false by rw [HDD.out, HZ4.out]; rfl)
                    clear e1 HZ3 HDD HOPT HOZ HTST
                    obtain ⟨x0, x1, x2, x3, x4, x5⟩ := six_cells HRC.out
                    have hz : ∀ j, (wc).frozen? ⟨w.heap.size + 1, j, none⟩ = false := fun j => blk_frozen HRC.out j
                    go_wp2_with fail
                    have HBF := Lib.hid (setCells_all (w := wc) (p := w.heap.size + 1) [.int .i64 0, .int .i64 0, .int .i64 0, .bool false, .int .i64 0, .slice none 0 0] HRC.out rfl)
                    have HFF := Lib.hid (setCells_fr (p := w.heap.size + 1) [.int .i64 0, .int .i64 0, .int .i64 0, .bool false, .int .i64 0, .slice none 0 0] 0 (wc))
                    change bodyPost _ _ _ _ _ ((wc).setCells (w.heap.size + 1) 0 [.int .i64 0, .int .i64 0, .int .i64 0, .bool false, .int .i64 0, .slice none 0 0])
                    generalize (wc).setCells (w.heap.size + 1) 0 [.int .i64 0, .int .i64 0, .int .i64 0, .bool false, .int .i64 0, .slice none 0 0] = wF at *
                    obtain ⟨r0, r1, r2, r3, r4, r5⟩ := six_cells HBF.out
                    refine bodyPost_ret (v := .tuple #[.agg #[.int .i64 0, .int .i64 0, .int .i64 0, .bool false, .int .i64 0, .slice none 0 0], .bool false, .int .i64 1]) (by simp [results, Tryd.results17, go_sem, r0, r1, r2, r3, r4, r5]) rfl ?_
                    exact ⟨⟨0, 0, 0, 0, .inl ⟨none, 0, 0, by rw [HZ4.out, HD2.out]⟩⟩, HFC.out.trans HFF.out (fun x hx => by simp only [List.mem_singleton] at hx; exact .inr (by omega))⟩
                  | false =>
                    have hn : p + 4 + E ≤ dl := by
                      have h := of_decide_eq_false HTST.out
                      omega
                    have HNEXT := Lib.hid (show optsOk dt 0 dl = optsOk dt (p + 4 + E) dl by
                      rw [HOPT.out, if_neg (by omega), if_neg hp4]
                      first | rw [if_neg (by omega)] | (simp only [show ¬ dl < p + 4 + E from by omega, if_false, if_neg]))
                    have d5 : wc.cell? ⟨RB, 4, none⟩ = some (.slice da dl dc) := HFCC.out.cell d4 (by simp)
                    clear HTST HOPT
                    go_wp2_with fail
                    refine (HP2b.out _ HFCC.out).mono ?_
                    rintro e w5 ⟨rfl, q5, rfl⟩
                    have hf5 : Fr [] wr (wc.drewN q5) := HFCC.out.drewN q5
                    generalize wc.drewN q5 = w5 at *
                    have hb5 := hf5.blk HOB.out (by simp)
                    have c4 : w5.cell? ⟨RB, 4, none⟩ = some (.slice da dl dc) := hf5.cell d4 (by simp)
                    have c5 : w5.cell? ⟨RB + 1, 5, none⟩ = some (.slice va cnt vc) := blk_cell hb5 5 rfl
                    have HF5 := Lib.hid hf5
                    have HOV5 := Lib.hid (fun wx (h : Fr [] wr wx) => HOV.out.kept h (fun _ _ => by simp))
                    go_upto_region 20 with fail
                    go_cut [] (fun wy => OoLp w RB (RB + 1) (w.heap.size + 1) #[.slice na' nl nc', .int .i64 ty, .int .i64 cl, .int .i64 tl, .slice da dl dc] (.int .i64 cl) (.int .i64 (tl / 16777216)) (.int .i64 (tl / 65536 % 256)) (.bool (tl / 32768 % 2 == 1)) (.int .i64 (tl % 32768)) dl dt (p + 4 + E) wy)
                    case first =>
                      have HFD := Lib.hid (show Fr [] wr w5.drew from HF5.out.drew)
                      have hdc := HD.out.le_cap
                      have s0 : (0 : Int) ≤ (p : Int) + 4 := by omega
                      have s1 : (p : Int) + 4 ≤ (p : Int) + 4 + (E : Int) := by omega
                      have s2 : (p : Int) + 4 + (E : Int) ≤ (dc : Int) := by omega
                      have s3 : (0 : Int) ≤ (p : Int) + 4 + (E : Int) := by omega
                      have t1 : ((p : Int) + 4).toNat = p + 4 := by omega
                      have t2 : ((p : Int) + 4 + (E : Int)).toNat = p + 4 + E := by omega
                      have v1 : IntKind.i64.wrap ((p : Int) + 4) = (p : Int) + 4 := IntWalk.i64_in _ (by omega)
                      have v3 : IntKind.i64.wrap ((p : Int) + 4 + (E : Int)) = (p : Int) + 4 + (E : Int) := IntWalk.i64_in _ (by omega)
                      simp only [hideOLoad]
                      have c5d : w5.drew.cell? ⟨RB + 1, 5, none⟩ = some (.slice va cnt vc) := c5
                      have HA0 := Lib.hid (HOV.out.apart HRB.out (by decide))
                      have HA1 := Lib.hid (HOV.out.apart HOB.out (by decide))
                      have HA2 := Lib.hid (HOV.out.apart HR0.out (by decide))
                      have HNB := Lib.hid (show w.heap.size ≤ wr.heap.size from HFR.out.size)
                      by_cases hdc4 : dc = p + 4
                      · have hdc5 : p + 4 = dc := hdc4.symm
                        clear hdc4
                        go_region_held3 (fun wx => wx.cell? ⟨RB, 4, none⟩ = some (.slice da dl dc)) (first | exact c4 | exact HY4.out | exact HYB.out | exact HY7.out | exact (HXF.out.alloc _).cell d4 (by simp) | exact HZ7.out | fail)
                          (first
                            | (go_at_call 36; (with_reducible refine (HP0.out _ HFD.out).mono ?_); rintro e wx ⟨rfl, qx, rfl⟩; have HXF := Lib.hid (show Fr [] wr (w5.drewN (1 + qx)) from HF5.out.drewN _); have HYB := Lib.hid (show (w5.drewN (1 + qx)).cell? ⟨RB, 4, none⟩ = some (.slice da dl dc) from c4); have y5b : (w5.drewN (1 + qx)).cell? ⟨RB + 1, 5, none⟩ = some (.slice va cnt vc) := c5; have y5c : ∀ o, ((w5.drewN (1 + qx)).alloc o).cell? ⟨RB + 1, 5, none⟩ = some (.slice va cnt vc) := fun o => ((Fr.refl [] _).alloc o).cell y5b (by simp); have HY4 := Lib.hid (show (w5.drew.drewN qx).cell? ⟨RB, 4, none⟩ = some (.slice da dl dc) from c4); have y5 : (w5.drew.drewN qx).cell? ⟨RB + 1, 5, none⟩ = some (.slice va cnt vc) := c5)
                            | (refine step_appC rfl (.tmp 112) (.tmp 127) 66 rfl 96 infoOpt Tryd.underlying66 rfl (by decide) (f2_one _ _ _ _) (HOV5.out _ (HXF.out.alloc _)) rfl (rdc_two _ _ _ _ rfl) rfl (by unfold maxLen; omega) (by omega) (Nat.le_trans HNB.out (HXF.out.alloc _).size) ?_; intro v7 w7 ho7 hf7 _; obtain ⟨g7, c7', rfl, hg7, hr7⟩ := OwnC.row ho7 (by omega); have HR7 := Lib.hid hr7; have HG7 := Lib.hid hg7; have HF7 := Lib.hid hf7; have HB7 := Lib.hid (hf7.blk ((HXF.out.alloc _).blk HOB.out (by simp)) HA1.out); have z5 := blk_frozen HB7.out 5; have y7 := blk_cell HB7.out 5 (v := .slice va cnt vc) rfl; have HZ7 := Lib.hid (((Fr.refl [RB + 1] w7).setCell (p := ⟨RB + 1, 5, none⟩) (.inl (by simp)) (.slice (some ⟨g7, 0, none⟩) (cnt + 1) c7')).cell (p := ⟨RB, 4, none⟩) (v := .slice da dl dc) (hf7.cell (p := ⟨RB, 4, none⟩) (v := .slice da dl dc) ((HXF.out.alloc _).cell d4 (by simp)) HA0.out) (by simp)); have HY7 := Lib.hid (hf7.cell (p := ⟨RB, 4, none⟩) (v := .slice da dl dc) ((HXF.out.alloc _).cell d4 (by simp)) HA0.out))
                            | fail)
                        all_goals
                          have hs9 : Fr [RB + 1] w7 (w7.setCell ⟨RB + 1, 5, none⟩ (.slice (some ⟨g7, 0, none⟩) (cnt + 1) c7')) := (Fr.refl [RB + 1] w7).setCell (p := ⟨RB + 1, 5, none⟩) (.inl (by simp)) _
                          have hne : g7 ∉ [RB + 1] := by
                            obtain ⟨cur, h1, _⟩ := HR7.out
                            simp only [List.mem_singleton]
                            rintro rfl
                            have h2 := HB7.out
                            rw [h1] at h2
                            simp at h2
                          have HS9 := Lib.hid hs9
                          have HNE := Lib.hid hne
                          clear hs9 hne
                          go_wp2_with fail
                          go_meet
                          exact ⟨cnt + 1, .slice (some ⟨g7, 0, none⟩) (cnt + 1) c7', _, by omega, by omega, blk_setk HB7.out 5 _, .inr ⟨g7, c7', rfl, HG7.out, HR7.out.kept HS9.out HNE.out⟩, HNEXT.out,
                            HS9.out.blk (HF7.out.blk ((HXF.out.alloc _).blk HRB.out (by simp)) HA0.out) (by simp), HS9.out.blk (HF7.out.blk ((HXF.out.alloc _).blk HR0.out (by simp)) HA2.out) (by simp; omega),
                            ((HFR.out.trans (HXF.out.alloc _) (by simp)).trans HF7.out (fun x hx => .inr (HOV.out.ge x hx))).trans HS9.out (by simp; omega)⟩
                      · go_region_held3 (fun wx => wx.cell? ⟨RB, 4, none⟩ = some (.slice da dl dc)) (first | exact c4 | exact HY4.out | exact HYB.out | exact HY7.out | exact (HXF.out.alloc _).cell d4 (by simp) | exact HZ7.out | fail)
                          (first
                            | (go_at_call 36; (with_reducible refine (HP0.out _ HFD.out).mono ?_); rintro e wx ⟨rfl, qx, rfl⟩; have HXF := Lib.hid (show Fr [] wr (w5.drewN (1 + qx)) from HF5.out.drewN _); have HYB := Lib.hid (show (w5.drewN (1 + qx)).cell? ⟨RB, 4, none⟩ = some (.slice da dl dc) from c4); have y5b : (w5.drewN (1 + qx)).cell? ⟨RB + 1, 5, none⟩ = some (.slice va cnt vc) := c5; have y5c : ∀ o, ((w5.drewN (1 + qx)).alloc o).cell? ⟨RB + 1, 5, none⟩ = some (.slice va cnt vc) := fun o => ((Fr.refl [] _).alloc o).cell y5b (by simp); have HY4 := Lib.hid (show (w5.drew.drewN qx).cell? ⟨RB, 4, none⟩ = some (.slice da dl dc) from c4); have y5 : (w5.drew.drewN qx).cell? ⟨RB + 1, 5, none⟩ = some (.slice va cnt vc) := c5)
                            | (refine step_appC rfl (.tmp 112) (.tmp 127) 66 rfl 96 infoOpt Tryd.underlying66 rfl (by decide) (f2_one _ _ _ _) (HOV5.out _ (HXF.out.alloc _)) rfl (rdc_two _ _ _ _ rfl) rfl (by unfold maxLen; omega) (by omega) (Nat.le_trans HNB.out (HXF.out.alloc _).size) ?_; intro v7 w7 ho7 hf7 _; obtain ⟨g7, c7', rfl, hg7, hr7⟩ := OwnC.row ho7 (by omega); have HR7 := Lib.hid hr7; have HG7 := Lib.hid hg7; have HF7 := Lib.hid hf7; have HB7 := Lib.hid (hf7.blk ((HXF.out.alloc _).blk HOB.out (by simp)) HA1.out); have z5 := blk_frozen HB7.out 5; have y7 := blk_cell HB7.out 5 (v := .slice va cnt vc) rfl; have HZ7 := Lib.hid (((Fr.refl [RB + 1] w7).setCell (p := ⟨RB + 1, 5, none⟩) (.inl (by simp)) (.slice (some ⟨g7, 0, none⟩) (cnt + 1) c7')).cell (p := ⟨RB, 4, none⟩) (v := .slice da dl dc) (hf7.cell (p := ⟨RB, 4, none⟩) (v := .slice da dl dc) ((HXF.out.alloc _).cell d4 (by simp)) HA0.out) (by simp)); have HY7 := Lib.hid (hf7.cell (p := ⟨RB, 4, none⟩) (v := .slice da dl dc) ((HXF.out.alloc _).cell d4 (by simp)) HA0.out))
                            | fail)
                        all_goals
                          have hs9 : Fr [RB + 1] w7 (w7.setCell ⟨RB + 1, 5, none⟩ (.slice (some ⟨g7, 0, none⟩) (cnt + 1) c7')) := (Fr.refl [RB + 1] w7).setCell (p := ⟨RB + 1, 5, none⟩) (.inl (by simp)) _
                          have hne : g7 ∉ [RB + 1] := by
                            obtain ⟨cur, h1, _⟩ := HR7.out
                            simp only [List.mem_singleton]
                            rintro rfl
                            have h2 := HB7.out
                            rw [h1] at h2
                            simp at h2
                          have HS9 := Lib.hid hs9
                          have HNE := Lib.hid hne
                          clear hs9 hne
                          go_wp2_with fail
                          go_meet
                          exact ⟨cnt + 1, .slice (some ⟨g7, 0, none⟩) (cnt + 1) c7', _, by omega, by omega, blk_setk HB7.out 5 _, .inr ⟨g7, c7', rfl, HG7.out, HR7.out.kept HS9.out HNE.out⟩, HNEXT.out,
                            HS9.out.blk (HF7.out.blk ((HXF.out.alloc _).blk HRB.out (by simp)) HA0.out) (by simp), HS9.out.blk (HF7.out.blk ((HXF.out.alloc _).blk HR0.out (by simp)) HA2.out) (by simp; omega),
                            ((HFR.out.trans (HXF.out.alloc _) (by simp)).trans HF7.out (fun x hx => .inr (HOV.out.ge x hx))).trans HS9.out (by simp; omega)⟩
                    case rest =>
                      have HCUT := Lib.hid hcut
                      clear hcut
                      have v1 : IntKind.i64.wrap ((p : Int) + (4 + (E : Int))) = (p : Int) + (4 + (E : Int)) := IntWalk.i64_in _ (by omega)
                      go_wp2
                      go_roundw
                      case rel => exact ⟨p + 4 + E, by go_num, HCUT.out⟩
                      case measure => (simp [intOf] <;> omega)

end Go.Proofs.YtkdmkpdooiacaaaDoor
