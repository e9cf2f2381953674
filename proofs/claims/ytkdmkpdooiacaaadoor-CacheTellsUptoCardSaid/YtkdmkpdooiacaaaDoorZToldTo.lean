/- The reference's ToldTo: what is told of a message for a query, so much later. -/
import Derived.Test.YtkdmkpdooiacaaaDoorZbase3
namespace Go.Proofs.YtkdmkpdooiacaaaDoor
open Go.RowKit

theorem calls_gen' {P : Program} {f : FuncId} {args : Array Value} {w : World} {R : Ending → World → Prop} (Q : World → Prop) (hQ : Q w) (h : ∀ W, Q W → Calls P f args W R) : Calls P f args w R := h w hQ

theorem three_new' (w : World) (x y z : Obj) : (((w.alloc x).alloc y).alloc z).heap[w.heap.size + 1]? = some y ∧ (((w.alloc x).alloc y).alloc z).heap[w.heap.size + 1 + 1]? = some z ∧ Fr [] w (((w.alloc x).alloc y).alloc z) := by
  have s1 : (w.alloc x).heap.size = w.heap.size + 1 := by simp
  have s2 : ((w.alloc x).alloc y).heap.size = w.heap.size + 1 + 1 := by simp
  refine ⟨?_, ?_, (((Fr.refl [] w).alloc x).alloc y).alloc z⟩
  · rw [← s1]; exact ((Fr.refl [] _).alloc z).blk (heap_alloc_new _ y) (by simp)
  · rw [← s2]; exact heap_alloc_new _ z

/-- a message's section, so much later -/
theorem Sec.aged {B : HB} {w w' : World} {v v' : Value} {n : Nat} {R : Nat → Rs} {F : Nat → Nat → Value} {B0 : Nat} (h : Sec B w v n R F) (hf : Fr [] w w') (age : Int) (more : Bool) (ho : OwnC w' B0 60 v' 5 n (oF age more R F)) (hS : ∀ x ∈ B.s, x < B0) :
    Sec B w' v' n (fun i => agR age more (R i)) (oF age more R F) :=
  ⟨ho.rd, ho.cold (by decide) B hS, fun i hi => ((h.at_ i hi).frH (hf.hot0 B)).aged age more, fun i hi => agR_wf (h.wf i hi) age more, h.nb⟩

set_option maxHeartbeats 4000000 in
set_option maxRecDepth 100000 in
theorem toldTo_any (w : World) (B : HB) (q m : Ms) (qq qa qu qm vq va vu vm : Value) (age : Int) (hq : MsOk B w q qq qa qu qm) (hm : MsOk B w m vq va vu vm) (hS : ∀ x ∈ B.s, x < w.heap.size) :
    Calls Tryd.prog 31 #[msgV q.h qq qa qu qm, msgV m.h vq va vu vm, .int .i64 age] w fun e w' =>
      ∃ va' vu' vm', e = .returned (msgV (tolM q m age).h qq va' vu' vm') ∧ MsOk B w' (tolM q m age) qq va' vu' vm' ∧ Fr [] w w' := by
  have HQM := Lib.hid hq
  have HMM := Lib.hid hm
  obtain ⟨FQ, hQ⟩ := hq.hq
  obtain ⟨_, hq1⟩ := hq.ha
  obtain ⟨_, hq2⟩ := hq.hu
  obtain ⟨_, hq3⟩ := hq.hm
  obtain ⟨_, hm1⟩ := hm.hq
  obtain ⟨FA, hA⟩ := hm.ha
  obtain ⟨FU, hU⟩ := hm.hu
  obtain ⟨FM, hM⟩ := hm.hm
  obtain ⟨qb, qc, rfl⟩ := hQ.rd.slice
  obtain ⟨qb1, qc1, rfl⟩ := hq1.rd.slice
  obtain ⟨qb2, qc2, rfl⟩ := hq2.rd.slice
  obtain ⟨qb3, qc3, rfl⟩ := hq3.rd.slice
  obtain ⟨mb0, mc0, rfl⟩ := hm1.rd.slice
  obtain ⟨mb1, mc1, rfl⟩ := hA.rd.slice
  obtain ⟨mb2, mc2, rfl⟩ := hU.rd.slice
  obtain ⟨mb3, mc3, rfl⟩ := hM.rd.slice
  have HA := Lib.hid hA
  have HU := Lib.hid hU
  have HM := Lib.hid hM
  have HQ := Lib.hid hQ
  have HEND := Lib.hid (fun (w' : World) (a7 a8 a9 : Option Addr) (c7 c8 c9 : Nat) (hf : Fr [] w w') (o1 : OwnC w' w.heap.size 60 (.slice a7 m.an c7) 5 m.an (oF age false m.A FA)) (o2 : OwnC w' w.heap.size 60 (.slice a8 m.un c8) 5 m.un (oF age false m.U FU)) (o3 : OwnC w' w.heap.size 60 (.slice a9 m.mn c9) 5 m.mn (oF age true m.M FM)) =>
    show MsOk B w' (tolM q m age) (.slice qb q.qn qc) (.slice a7 m.an c7) (.slice a8 m.un c8) (.slice a9 m.mn c9) from
    ⟨⟨FQ, HQ.out.frH (hf.hot0 B)⟩, ⟨_, HA.out.aged hf age false o1 hS⟩, ⟨_, HU.out.aged hf age false o2 hS⟩, ⟨_, HM.out.aged hf age true o3 hS⟩, ⟨HQM.out.hh.id0, HMM.out.hh.op0, HMM.out.hh.code0⟩⟩)
  have HTH := Lib.hid (show (tolM q m age).h = { m.h with id := q.h.id, rd := q.h.rd } from rfl)
  clear hq hm hQ hq1 hq2 hq3 hm1 hA hU hM HQM HMM HQ hS
  generalize tolM q m age = tm at *
  generalize q.qn = pq at *
  generalize q.an = pa at *
  generalize q.un = pu at *
  generalize q.mn = pm at *
  generalize m.qn = nq at *
  generalize m.an = na at *
  generalize m.un = nu at *
  generalize m.mn = nm at *
  generalize m.A = MA at *
  generalize m.U = MU at *
  generalize m.M = MM at *
  obtain ⟨th, eth⟩ : ∃ x, tm.h = x := ⟨_, rfl⟩
  rw [eth] at HTH ⊢
  obtain ⟨qh, eqh⟩ : ∃ x, q.h = x := ⟨_, rfl⟩
  obtain ⟨mh, emh⟩ : ∃ x, m.h = x := ⟨_, rfl⟩
  rw [eqh] at HTH ⊢
  rw [emh] at HTH ⊢
  clear eqh emh eth
  obtain ⟨g0, g1, g2, g3, g4, g5, g6, g7, g8, g9, g10⟩ := qh
  obtain ⟨h0, h1, h2, h3, h4, h5, h6, h7, h8, h9, h10⟩ := mh
  obtain rfl : th = ⟨g0, h1, h2, h3, h4, g5, h6, h7, h8, h9, h10⟩ := HTH.out
  clear HTH
  simp only [msgV]
  go_enter Tryd.func31, Tryd.ntmps31
  go_wp2_with fail
  refine calls_gen' (fun W => W.heap[w.heap.size + 1]? = some (.cells (msgCs ⟨g0, h1, h2, h3, h4, g5, h6, h7, h8, h9, h10⟩ (.slice qb pq qc) (.slice mb1 na mc1) (.slice mb2 nu mc2) (.slice mb3 nm mc3)) 43) ∧ W.heap[w.heap.size + 1 + 1]? = some (.cells (msgCs ⟨0, false, 0, false, false, false, false, false, false, false, 0⟩ (.slice none 0 0) (.slice none 0 0) (.slice none 0 0) (.slice none 0 0)) 43) ∧ Fr [] w W) (three_new' w _ _ _) ?_
  rintro W ⟨hb1, hb2, hfW⟩
  refine (older_any W B mb1 na mc1 MA FA age false (HA.out.frH (hfW.hot0 B))).mono ?_
  rintro e w3 ⟨v3, rfl, ho3, _, hf3⟩
  obtain ⟨a7, c7, rfl⟩ := ho3.rd.slice
  have HF3 := Lib.hid (hfW.trans hf3 (by simp))
  have HB1 := Lib.hid (hf3.blk hb1 (by simp))
  have HB2 := Lib.hid (hf3.blk hb2 (by simp))
  have HO3 := Lib.hid (ho3.mono hfW.size)
  clear hb1 hb2 hfW hf3 ho3
  have x12 : w3.cell? ⟨w.heap.size + 1, 12, none⟩ = some (.slice mb1 na mc1) := blk_cell HB1.out 12 rfl
  have x13 : w3.cell? ⟨w.heap.size + 1, 13, none⟩ = some (.slice mb2 nu mc2) := blk_cell HB1.out 13 rfl
  have z12 : w3.frozen? ⟨w.heap.size + 1, 12, none⟩ = false := blk_frozen HB1.out 12
  go_wp2_with fail
  refine calls_gen' (fun W => W.heap[w.heap.size + 1]? = some (.cells (msgCs ⟨g0, h1, h2, h3, h4, g5, h6, h7, h8, h9, h10⟩ (.slice qb pq qc) (.slice a7 na c7) (.slice mb2 nu mc2) (.slice mb3 nm mc3)) 43) ∧ W.heap[w.heap.size + 1 + 1]? = some (.cells (msgCs ⟨0, false, 0, false, false, false, false, false, false, false, 0⟩ (.slice none 0 0) (.slice none 0 0) (.slice none 0 0) (.slice none 0 0)) 43) ∧ Fr [] w W ∧ OwnC W w.heap.size 60 (.slice a7 na c7) 5 na (oF age false MA FA))
    ⟨blk_setk HB1.out 12 _, blk_set_ne HB2.out (by omega) _, HF3.out.setCell (.inr (by show w.heap.size ≤ w.heap.size + 1; omega)) _, HO3.out.kept ((Fr.refl [w.heap.size + 1] w3).setCell (.inl (by simp)) _) (HO3.out.ne_blk HB1.out (by decide))⟩ ?_
  rintro W4 ⟨hb1, hb2, hfW, ho4⟩
  clear x12 x13 z12 HF3 HB1 HB2 HO3
  refine (older_any W4 B mb2 nu mc2 MU FU age false (HU.out.frH (hfW.hot0 B))).mono ?_
  rintro e w5 ⟨v5, rfl, ho5, _, hf5⟩
  obtain ⟨a8, c8, rfl⟩ := ho5.rd.slice
  have HF5 := Lib.hid (hfW.trans hf5 (by simp))
  have HB1 := Lib.hid (hf5.blk hb1 (by simp))
  have HB2 := Lib.hid (hf5.blk hb2 (by simp))
  have HO3 := Lib.hid (ho4.kept hf5 (by simp))
  have HO5 := Lib.hid (ho5.mono hfW.size)
  clear hb1 hb2 hfW hf5 ho4 ho5
  have x13 : w5.cell? ⟨w.heap.size + 1, 13, none⟩ = some (.slice mb2 nu mc2) := blk_cell HB1.out 13 rfl
  have x14 : w5.cell? ⟨w.heap.size + 1, 14, none⟩ = some (.slice mb3 nm mc3) := blk_cell HB1.out 14 rfl
  have z13 : w5.frozen? ⟨w.heap.size + 1, 13, none⟩ = false := blk_frozen HB1.out 13
  go_wp2_with fail
  refine calls_gen' (fun W => W.heap[w.heap.size + 1]? = some (.cells (msgCs ⟨g0, h1, h2, h3, h4, g5, h6, h7, h8, h9, h10⟩ (.slice qb pq qc) (.slice a7 na c7) (.slice a8 nu c8) (.slice mb3 nm mc3)) 43) ∧ W.heap[w.heap.size + 1 + 1]? = some (.cells (msgCs ⟨0, false, 0, false, false, false, false, false, false, false, 0⟩ (.slice none 0 0) (.slice none 0 0) (.slice none 0 0) (.slice none 0 0)) 43) ∧ Fr [] w W ∧ OwnC W w.heap.size 60 (.slice a7 na c7) 5 na (oF age false MA FA) ∧ OwnC W w.heap.size 60 (.slice a8 nu c8) 5 nu (oF age false MU FU))
    ⟨blk_setk HB1.out 13 _, blk_set_ne HB2.out (by omega) _, HF5.out.setCell (.inr (by show w.heap.size ≤ w.heap.size + 1; omega)) _, HO3.out.kept ((Fr.refl [w.heap.size + 1] w5).setCell (.inl (by simp)) _) (HO3.out.ne_blk HB1.out (by decide)), HO5.out.kept ((Fr.refl [w.heap.size + 1] w5).setCell (.inl (by simp)) _) (HO5.out.ne_blk HB1.out (by decide))⟩ ?_
  rintro W6 ⟨hb1, hb2, hfW, ho3, ho5⟩
  clear x13 x14 z13 HF5 HB1 HB2 HO3 HO5
  refine (older_any W6 B mb3 nm mc3 MM FM age true (HM.out.frH (hfW.hot0 B))).mono ?_
  rintro e w7 ⟨v7, rfl, ho7, _, hf7⟩
  obtain ⟨a9, c9, rfl⟩ := ho7.rd.slice
  have HF7 := Lib.hid (hfW.trans hf7 (by simp))
  have HB1 := Lib.hid (hf7.blk hb1 (by simp))
  have HB2 := Lib.hid (hf7.blk hb2 (by simp))
  have HO3 := Lib.hid (ho3.kept hf7 (by simp))
  have HO5 := Lib.hid (ho5.kept hf7 (by simp))
  have HO7 := Lib.hid (ho7.mono hfW.size)
  clear hb1 hb2 hfW hf7 ho3 ho5 ho7
  have x14 : w7.cell? ⟨w.heap.size + 1, 14, none⟩ = some (.slice mb3 nm mc3) := blk_cell HB1.out 14 rfl
  have z14 : w7.frozen? ⟨w.heap.size + 1, 14, none⟩ = false := blk_frozen HB1.out 14
  go_upto_region 7 with fail
  have hset := (Fr.refl [w.heap.size + 1] w7).setCell (p := ⟨w.heap.size + 1, 14, none⟩) (.inl (by simp)) (.slice a9 nm c9)
  have HC1 := Lib.hid (show (w7.setCell ⟨w.heap.size + 1, 14, none⟩ (.slice a9 nm c9)).heap[w.heap.size + 1]? = some (.cells (msgCs ⟨g0, h1, h2, h3, h4, g5, h6, h7, h8, h9, h10⟩ (.slice qb pq qc) (.slice a7 na c7) (.slice a8 nu c8) (.slice a9 nm c9)) 43 (0, 0)) from blk_setk HB1.out 14 _)
  have HC2 := Lib.hid (blk_set_ne (k := 14) HB2.out (by omega : w.heap.size + 1 + 1 ≠ w.heap.size + 1) (.slice a9 nm c9))
  have HCF := Lib.hid (show Fr [] w (w7.setCell ⟨w.heap.size + 1, 14, none⟩ (.slice a9 nm c9)) from HF7.out.setCell (.inr (by show w.heap.size ≤ w.heap.size + 1; omega)) _)
  have HD3 := Lib.hid (HO3.out.kept hset (HO3.out.ne_blk HB1.out (by decide)))
  have HD5 := Lib.hid (HO5.out.kept hset (HO5.out.ne_blk HB1.out (by decide)))
  have HD7 := Lib.hid (HO7.out.kept hset (HO7.out.ne_blk HB1.out (by decide)))
  clear x14 z14 hset HB1 HB2 HF7 HO3 HO5 HO7
  generalize w7.setCell ⟨w.heap.size + 1, 14, none⟩ (.slice a9 nm c9) = wc at *
  have hb1 := HC1.out
  have hb2 := HC2.out
  unfold msgCs at hb1 hb2
  obtain ⟨m0, m1, m2, m3, m4, m5, m6, m7, m8, m9, m10, m11, m12, m13, m14⟩ := msg_cells (h := ⟨g0, h1, h2, h3, h4, g5, h6, h7, h8, h9, h10⟩) hb1
  obtain ⟨n0, n1, n2, n3, n4, n5, n6, n7, n8, n9, n10, n11, n12, n13, n14⟩ := msg_cells (h := ⟨0, false, 0, false, false, false, false, false, false, false, 0⟩) hb2
  have hz : ∀ j, wc.frozen? ⟨w.heap.size + 1 + 1, j, none⟩ = false := fun j => blk_frozen hb2 j
  clear hb1
  have HBB := Lib.hid hb2
  clear hb2
  go_wp2_with fail
  have HBF := Lib.hid (setCells_all (w := wc) (p := w.heap.size + 1 + 1) [.int .i64 g0, .bool h1, .int .i64 h2, .bool h3, .bool h4, .bool g5, .bool h6, .bool h7, .bool h8, .bool h9, .int .i64 h10, .slice qb pq qc, .slice a7 na c7, .slice a8 nu c8, .slice a9 nm c9] HBB.out rfl)
  have HFF := Lib.hid (setCells_fr (p := w.heap.size + 1 + 1) [.int .i64 g0, .bool h1, .int .i64 h2, .bool h3, .bool h4, .bool g5, .bool h6, .bool h7, .bool h8, .bool h9, .int .i64 h10, .slice qb pq qc, .slice a7 na c7, .slice a8 nu c8, .slice a9 nm c9] 0 wc)
  change bodyPost _ _ _ _ _ (wc.setCells (w.heap.size + 1 + 1) 0 [.int .i64 g0, .bool h1, .int .i64 h2, .bool h3, .bool h4, .bool g5, .bool h6, .bool h7, .bool h8, .bool h9, .int .i64 h10, .slice qb pq qc, .slice a7 na c7, .slice a8 nu c8, .slice a9 nm c9])
  generalize wc.setCells (w.heap.size + 1 + 1) 0 [.int .i64 g0, .bool h1, .int .i64 h2, .bool h3, .bool h4, .bool g5, .bool h6, .bool h7, .bool h8, .bool h9, .int .i64 h10, .slice qb pq qc, .slice a7 na c7, .slice a8 nu c8, .slice a9 nm c9] = wF at *
  obtain ⟨r0, r1, r2, r3, r4, r5, r6, r7, r8, r9, r10, r11, r12, r13, r14⟩ := msg_cells (h := ⟨g0, h1, h2, h3, h4, g5, h6, h7, h8, h9, h10⟩) HBF.out
  refine bodyPost_ret (v := .agg #[.int .i64 g0, .bool h1, .int .i64 h2, .bool h3, .bool h4, .bool g5, .bool h6, .bool h7, .bool h8, .bool h9, .int .i64 h10, .slice qb pq qc, .slice a7 na c7, .slice a8 nu c8, .slice a9 nm c9]) (by simp [results, Tryd.results31, go_sem, r0, r1, r2, r3, r4, r5, r6, r7, r8, r9, r10, r11, r12, r13, r14]) rfl ?_
  exact ⟨_, _, _, rfl, HEND.out wF a7 a8 a9 c7 c8 c9 (HCF.out.trans HFF.out (fun x hx => by simp only [List.mem_singleton] at hx; exact .inr (by omega))) (HD3.out.kept HFF.out (HD3.out.ne_blk HBB.out (by decide))) (HD5.out.kept HFF.out (HD5.out.ne_blk HBB.out (by decide))) (HD7.out.kept HFF.out (HD7.out.ne_blk HBB.out (by decide))), HCF.out.trans HFF.out (fun x hx => by simp only [List.mem_singleton] at hx; exact .inr (by omega))⟩

end Go.Proofs.YtkdmkpdooiacaaaDoor
