/- RendTells: the walk. -/
import Derived.Test.YtbaiaolgjlhioaaDoorRendOrd
import Derived.Test.YtbaiaolgjlhioaaDoorNodesRef
import Derived.Test.YtbaiaolgjlhioaaDoorInts
import Derived.Test.YtbaiaolgjlhioaaDoorDoor
namespace Go.Proofs.YtbaiaolgjlhioaaDoor
open Go.RowKit Go.Sort

theorem error_er' (w : World) (z : Int) (hg : Hand w) (v : Value) (hv : v = erV z) :
    Calls Tryd.prog 9 #[v, .int .i64 z] w fun e w' => e = .returned (.bool true) ∧ Fr [] w w' := by
  subst hv
  by_cases hz : z = 0
  · subst hz
    refine (error_any w none 0 hg).mono ?_
    rintro e w' ⟨rfl, h⟩
    exact ⟨rfl, h⟩
  · refine (show erV z = errOf (some z) by simp [erV, errOf, hz]) ▸ (error_any w (some z) z hg).mono ?_
    rintro e w' ⟨rfl, h⟩
    exact ⟨by simp [numOf], h⟩

set_option maxHeartbeats 8000000 in
set_option maxRecDepth 100000 in
theorem rendTells_any (w : World) (hg : Hand w) (a : Option Addr) (n c : Nat) (p : Nat → Int × Int) (hv : RdP w (.slice a n c) n p) (id wt : Int) (hi : -9223372036854775808 ≤ id ∧ id ≤ 9223372036854775807) (hw : -9223372036854775808 ≤ wt ∧ wt ≤ 9223372036854775807)
    (ka : Option Addr) (m kc : Nat) (kf : Nat → Int) (hk : RdF w (.slice ka m kc) m (fun j => .int .u8 (kf j))) (hb : ∀ j, j < m → 0 ≤ kf j ∧ kf j ≤ 255) (hm : m ≤ 140737488351232) :
    Calls Tryd.prog 3 #[.slice a n c, .agg #[.int .i64 id, .int .i64 wt], .slice ka m kc] w fun e w' => e = .returned (.bool true) ∧ Fr [] w w' := by
  have HG := Lib.hid hg; clear hg
  have HV := Lib.hid hv; clear hv
  have HK := Lib.hid hk; clear hk
  have HKB := Lib.hid hb; clear hb
  have HBL := Lib.hid (heap_alloc_new w (.cells #[.int .i64 id, .int .i64 wt] 24))
  have HF1 := Lib.hid ((Fr.refl [] w).alloc (.cells #[.int .i64 id, .int .i64 wt] 24))
  go_enter Tryd.func3, Tryd.ntmps3
  go_wp2_with fail
  generalize w.alloc (.cells #[.int .i64 id, .int .i64 wt] 24) = w1 at *
  refine (nodesFault_any _ a n c p (HV.out.fr HF1.out)).mono ?_
  rintro e w2 ⟨rfl, hf2⟩
  have HF2 := Lib.hid (HF1.out.trans hf2 (by simp))
  have HB2 := Lib.hid (hf2.blk HBL.out (by simp))
  clear hf2 HBL
  obtain ⟨F, N, hFN⟩ : ∃ (F : Int) (N : Nat), (nfault p n = 0 ∧ F = ordn p m kf n 0 ∧ N = n) ∨ (nfault p n ≠ 0 ∧ F = 0 ∧ N = 0) := by
    by_cases hz : nfault p n = 0
    · exact ⟨_, _, .inl ⟨hz, rfl, rfl⟩⟩
    · exact ⟨_, _, .inr ⟨hz, rfl, rfl⟩⟩
  have HFN := Lib.hid hFN; clear hFN
  go_upto_if 18 with fail
  go_cut [8, 9] (fun v8 v9 wy => v9 = .int .i64 F ∧ (∃ aw cw, v8 = .slice aw N cw ∧ RdF wy (.slice aw N cw) N (fun j => .int .i64 (ordn p m kf n j))) ∧ wy.heap[w.heap.size]? = some (.cells #[.int .i64 id, .int .i64 wt] 24 (0, 0)) ∧ Fr [] w wy)
  case first =>
    by_cases hz : nfault p n = 0
    · have HZ := Lib.hid hz
      have HGD := Lib.hid ((nfault_iff p n).1 hz)
      have hz2 : (nfault p n == 0) = true := by simpa using hz
      obtain ⟨hF, hN⟩ : F = ordn p m kf n 0 ∧ N = n := by
        rcases HFN.out with ⟨_, h1, h2⟩ | ⟨h, _⟩
        · exact ⟨h1, h2⟩
        · exact absurd hz h
      subst hN
      have HFF := Lib.hid hF
      have h0 := HGD.out.n0
      have h00 : (0 : Int) < (N : Int) := by omega
      clear hz hF
      go_wp2_with fail
      refine (ordered_any _ a N c p (HV.out.fr HF2.out) HGD.out ka m kc kf (HK.out.fr HF2.out (by simp)) HKB.out hm).mono ?_
      rintro e w3 ⟨v, rfl, hO, hf3⟩
      obtain ⟨g, cap, rfl, _, hrow⟩ := hO.row h0
      have c0 := hrow.cell 0 h0
      simp only [← HFF.out] at c0
      have HR := Lib.hid hrow.rd
      have HF3 := Lib.hid (HF2.out.trans hf3 (by simp))
      have HB3 := Lib.hid (hf3.blk HB2.out (by simp))
      clear hO hrow hf3
      go_wp2_with fail
      go_meet
      exact ⟨rfl, ⟨_, _, rfl, HR.out⟩, HB3.out, HF3.out⟩
    · have hz2 : (nfault p n == 0) = false := by simpa using hz
      obtain ⟨hF, hN⟩ : F = 0 ∧ N = 0 := by
        rcases HFN.out with ⟨h, _⟩ | ⟨_, h1, h2⟩
        · exact absurd h hz
        · exact ⟨h1, h2⟩
      subst hF
      subst hN
      clear hz
      go_wp2_with fail
      go_meet
      exact ⟨rfl, ⟨none, 0, rfl, .inl ⟨rfl, rfl⟩⟩, HB2.out, HF2.out⟩
  case rest =>
    clear HF2 HB2 HF1
    obtain ⟨rfl, ⟨aw, cw, rfl, hrw⟩, hbl, hf⟩ := hcut
    have HRW := Lib.hid hrw
    have HBL := Lib.hid hbl
    have HF := Lib.hid hf
    clear hrw hbl hf
    go_wp2_with fail
    refine (order_any _ a n c p (HV.out.fr HF.out) ka m kc kf (HK.out.fr HF.out (by simp)) HKB.out hm).mono ?_
    rintro e w3 ⟨ho, hf3⟩
    have HRW3 := Lib.hid (HRW.out.fr hf3 (by simp))
    have HBL3 := Lib.hid (hf3.blk HBL.out (by simp))
    have HF3 := Lib.hid (HF.out.trans hf3 (by simp))
    obtain ⟨ao, co, ev, rfl, hev, hro, hN⟩ : ∃ ao co ev, e = .returned (.tuple #[.slice ao N co, ev]) ∧ ev = erV (nfault p n) ∧ RdF w3 (.slice ao N co) N (fun j => .int .i64 (ordn p m kf n j)) ∧ N ≤ 40 := by
      rcases ho with ⟨hz, v, rfl, hO⟩ | ⟨hz, rfl⟩
      · have hN : N = n := by
          rcases HFN.out with ⟨_, _, h2⟩ | ⟨h, _⟩
          · exact h2
          · exact absurd hz h
        subst hN
        obtain ⟨ao, co, rfl⟩ := hO.rd.slice
        exact ⟨ao, co, _, rfl, by rw [hz]; rfl, hO.rd, ((nfault_iff _ _).1 hz).n40⟩
      · have hN : N = 0 := by
          rcases HFN.out with ⟨h, _⟩ | ⟨_, _, h2⟩
          · exact absurd h hz
          · exact h2
        subst hN
        exact ⟨none, 0, _, rfl, rfl, .inl ⟨rfl, rfl⟩, by omega⟩
    have HEV := Lib.hid hev
    have HRO := Lib.hid hro
    clear ho hf3 hev hro
    go_wp2_with fail
    refine (error_er' _ (nfault p n) (HG.out.fr HF3.out (by simp)) ev HEV.out).mono ?_
    rintro e w4 ⟨rfl, hf4⟩
    have HRW4 := Lib.hid (HRW3.out.fr hf4 (by simp))
    have HRO4 := Lib.hid (HRO.out.fr hf4 (by simp))
    have HBL4 := Lib.hid (hf4.blk HBL3.out (by simp))
    have HF4 := Lib.hid (HF3.out.trans hf4 (by simp))
    clear hf4
    go_wp2_with fail
    refine (ints_any _ ao aw N N co cw _ _ HRO4.out HRW4.out (by omega) (by omega)).mono ?_
    rintro e w5 ⟨rfl, q, rfl⟩
    rw [(eqUpTo_iff _ _ _).2 (fun _ _ => rfl)]
    have hcc : (decide (N = N) && true) = true := by simp
    rw [hcc]
    clear hcc
    have HF5 := Lib.hid (HF4.out.drewN q)
    have HBL5 := Lib.hid (show (w4.drewN q).heap[w.heap.size]? = some (.cells #[.int .i64 id, .int .i64 wt] 24 (0, 0)) from HBL4.out)
    generalize w4.drewN q = w5 at *
    go_wp2_with fail
    refine (rpick_any _ a n c p (HV.out.fr HF5.out) ka m kc kf (HK.out.fr HF5.out (by simp)) HKB.out hm).mono ?_
    rintro e w6 ⟨hp, hf6⟩
    have HBL6 := Lib.hid (hf6.blk HBL5.out (by simp))
    have HF6 := Lib.hid (HF5.out.trans hf6 (by simp))
    obtain ⟨ev2, rfl, hev2⟩ : ∃ ev2, e = .returned (.tuple #[.int .i64 F, ev2]) ∧ ev2 = erV (nfault p n) := by
      rcases hp with ⟨hz, rfl⟩ | ⟨hz, rfl⟩
      · rcases HFN.out with ⟨_, h, _⟩ | ⟨h, _⟩
        · exact ⟨_, by rw [h], by rw [hz]; rfl⟩
        · exact absurd hz h
      · rcases HFN.out with ⟨h, _⟩ | ⟨_, h, _⟩
        · exact absurd h hz
        · exact ⟨_, by rw [h], rfl⟩
    have HEV2 := Lib.hid hev2
    clear hp hf6 hev2
    go_wp2_with fail
    refine (error_er' _ (nfault p n) (HG.out.fr HF6.out (by simp)) ev2 HEV2.out).mono ?_
    rintro e w7 ⟨rfl, hf7⟩
    have HBL7 := Lib.hid (hf7.blk HBL6.out (by simp))
    have HF7 := Lib.hid (HF6.out.trans hf7 (by simp))
    clear hf7
    have hff : (F == F) = true := by simp
    have g0 := blk_cell (v := .int .i64 id) HBL7.out 0 rfl
    have g1 := blk_cell (v := .int .i64 wt) HBL7.out 1 rfl
    have HS1 := Lib.hid (fun (w' : World) (h : Fr [] w7 w') => score_any w' id wt hi hw ka m kc kf (HK.out.fr (HF7.out.trans h (by simp)) (by simp)) HKB.out hm)
    have HS2 := Lib.hid (fun (w' : World) (h : Fr [] w7 w') => scored_any w' id wt hi hw ka m kc kf (HK.out.fr (HF7.out.trans h (by simp)) (by simp)) HKB.out hm)
    have HKC := Lib.hid (fun (w' : World) (h : Fr [] w7 w') => (⟨h.cell g0 (by simp), h.cell g1 (by simp)⟩ : w'.cell? ⟨w.heap.size, 0, none⟩ = some (.int .i64 id) ∧ w'.cell? ⟨w.heap.size, 1, none⟩ = some (.int .i64 wt)))
    obtain ⟨SC, hsc⟩ : ∃ SC, sco (id, wt) m kf = SC := ⟨_, rfl⟩
    rw [hsc] at HS1 HS2
    clear hsc
    have hss : (SC == SC) = true := by simp
    go_upto_region 14 with fail
    go_region_held3 (fun w' => w'.cell? ⟨w.heap.size, 0, none⟩ = some (.int .i64 id) ∧ w'.cell? ⟨w.heap.size, 1, none⟩ = some (.int .i64 wt))
      (first | exact HKC.out _ ((Fr.refl [] w7).drew) | exact HKC.out _ HF8.out | exact HKC.out _ HF9.out)
      (first
        | (go_at_call 12; refine (HS1.out _ ((Fr.refl [] w7).drew)).mono ?_; rintro e w8 ⟨rfl, hf8⟩; have HF8 := Lib.hid (((Fr.refl [] w7).drew).trans hf8 (S := []) (by simp)))
        | (go_at_call 13; refine (HS2.out _ HF8.out).mono ?_; rintro e w9 ⟨rfl, hf9⟩; have HF9 := Lib.hid (HF8.out.trans hf9 (by simp))))
    all_goals
      go_wp2
      go_ret
      exact ⟨rfl, HF7.out.trans HF9.out (by simp)⟩

end Go.Proofs.YtbaiaolgjlhioaaDoor
