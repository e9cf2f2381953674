/- rr.Read: a record at a place of bytes. -/
import Derived.BigQuiet
import Derived.Test.YtkdmkpdooiacaaaZbase3
import Derived.Test.YtkdmkpdooiacaaaZbase1
namespace Go.Proofs.Ytkdmkpdooiacaaa
open Go.RowKit

theorem rdR_fix (L : List UInt8) (i : Nat) : rdR L i = match rdFix L i with
    | .error e => .error e
    | .ok (ls, p, n) => .ok (⟨ls, pr L p, pr L (p + 2), pr L (p + 4) * 65536 + pr L (p + 6), sub L (p + 10) (n - (p + 10))⟩, n) := by
  unfold rdR rdFix
  match rdNm L i i 1 with
  | .error e => rfl
  | .ok (ls, p) =>
    simp only []
    split
    · rfl
    · split
      · rfl
      · simp only [Nat.add_sub_cancel_left]

theorem rdFix_bd {L : List UInt8} {i : Nat} {ls : List ByteArray} {p n : Nat} (h : rdFix L i = .ok (ls, p, n)) : i < p ∧ p + 10 ≤ n ∧ n ≤ L.length := by
  unfold rdFix at h
  match hn : rdNm L i i 1, h with
  | .ok (l2, q), h =>
    have hb := rdNm_bd hn
    simp only [] at h hb
    split at h
    · cases h
    · split at h
      · cases h
      · simp only [Except.ok.injEq, Prod.mk.injEq] at h
        obtain ⟨rfl, rfl, rfl⟩ := h
        omega

theorem blk_behind {w w' : World} {o : Obj} (h : Fr [] (w.alloc o) w') : w'.heap[w.heap.size]? = some o := h.blk (heap_alloc_new w o) (by simp)

theorem blk_behindD {w w' : World} {o : Obj} (h : Fr [] (w.alloc o).drew w') : w'.heap[w.heap.size]? = some o := h.blk (show (w.alloc o).drew.heap[w.heap.size]? = some o from heap_alloc_new w o) (by simp)

/-- what Read leaves -/
def RdRGood (w w' : World) (r : Except Int (Rc × Nat)) (e : Ending) : Prop :=
  ((∃ z, r = .error z ∧ z ≠ 0 ∧ e = .returned (.tuple #[.agg #[.slice none 0 0, .int .i64 0, .int .i64 0, .int .i64 0, .slice none 0 0], .int .i64 0, .iface 52 (.int .i64 z)])) ∨
    ∃ x n na nc da dc, r = .ok (x, n) ∧ e = .returned (.tuple #[.agg #[.slice na x.nm.length nc, .int .i64 x.ty, .int .i64 x.cl, .int .i64 x.tt, .slice da x.dt.length dc], .int .i64 (n : Nat), .nilIface]) ∧
      OwnF w' w.heap.size 9 (.slice na x.nm.length nc) x.nm.length (strV x.nm) ∧ OwnF w' w.heap.size 5 (.slice da x.dt.length dc) x.dt.length (bytV x.dt)) ∧ Fr [] w w'

set_option maxHeartbeats 40000000 in
set_option maxRecDepth 100000 in
theorem readR_any (w : World) (a : Option Addr) (c : Nat) (L : List UInt8) (i : Nat) (hv : RdF w (.slice a L.length c) L.length (bytV L)) (hl : L.length ≤ 140737488355328) :
    Calls Try.prog 19 #[.slice a L.length c, .int .i64 i] w fun e w' => RdRGood w w' (rdR L i) e := by
  have HW1 := Lib.hid ((Fr.refl [] w).alloc (.cells #[.slice none 0 0, .int .i64 0, .int .i64 0, .int .i64 0, .slice none 0 0] 63))
  have HB1 := Lib.hid (heap_alloc_new w (.cells #[.slice none 0 0, .int .i64 0, .int .i64 0, .int .i64 0, .slice none 0 0] 63))
  have HN := Lib.hid (fun (wx : World) (hx : Fr [] w wx) => fixed_any wx a c L i (hv.fr hx (by simp)) hl)
  have HV := Lib.hid hv
  have HFX := Lib.hid (rdR_fix L i)
  have HBD := Lib.hid (fun ls p n (h : rdFix L i = .ok (ls, p, n)) => rdFix_bd h)
  generalize rdR L i = R at *
  generalize rdFix L i = N at *
  clear hv
  go_enter Try.func19, Try.ntmps19
  go_wp2_with fail
  generalize w.alloc (.cells #[.slice none 0 0, .int .i64 0, .int .i64 0, .int .i64 0, .slice none 0 0] 63) = w1 at *
  refine (HN.out w1 HW1.out).mono ?_
  rintro e w2 ⟨h2, hf2⟩
  have HF2 := Lib.hid (HW1.out.trans hf2 (by simp))
  have HB2 := Lib.hid (hf2.blk HB1.out (by simp))
  rcases h2 with ⟨z, rfl, hz0, rfl⟩ | ⟨ls, p, n, ua, uc, rfl, rfl, ho⟩
  · have HZ := Lib.hid hz0
    have c0 := blk_cell HB2.out 0 (v := .slice none 0 0) rfl
    have c1 := blk_cell HB2.out 1 (v := .int .i64 0) rfl
    have c2 := blk_cell HB2.out 2 (v := .int .i64 0) rfl
    have c3 := blk_cell HB2.out 3 (v := .int .i64 0) rfl
    have c4 := blk_cell HB2.out 4 (v := .slice none 0 0) rfl
    have hz : ∀ j, w2.frozen? ⟨w.heap.size, j, none⟩ = false := fun j => blk_frozen HB2.out j
    clear hz0 hf2
    go_wp2
    have HBF := Lib.hid (setCells_all (w := w2) (p := w.heap.size) [.slice none 0 0, .int .i64 0, .int .i64 0, .int .i64 0, .slice none 0 0] HB2.out rfl)
    have HFF := Lib.hid (setCells_fr (p := w.heap.size) [.slice none 0 0, .int .i64 0, .int .i64 0, .int .i64 0, .slice none 0 0] 0 w2)
    change bodyPost _ _ _ _ _ (w2.setCells w.heap.size 0 [.slice none 0 0, .int .i64 0, .int .i64 0, .int .i64 0, .slice none 0 0])
    generalize w2.setCells w.heap.size 0 [.slice none 0 0, .int .i64 0, .int .i64 0, .int .i64 0, .slice none 0 0] = wF at *
    have r0 := blk_cell HBF.out 0 (v := .slice none 0 0) rfl
    have r1 := blk_cell HBF.out 1 (v := .int .i64 0) rfl
    have r2 := blk_cell HBF.out 2 (v := .int .i64 0) rfl
    have r3 := blk_cell HBF.out 3 (v := .int .i64 0) rfl
    have r4 := blk_cell HBF.out 4 (v := .slice none 0 0) rfl
    refine bodyPost_ret (v := .tuple #[.agg #[.slice none 0 0, .int .i64 0, .int .i64 0, .int .i64 0, .slice none 0 0], .int .i64 0, .iface 52 (.int .i64 z)]) (by simp [results, Try.results19, go_sem, r0, r1, r2, r3, r4]) rfl ?_
    exact ⟨.inl ⟨z, HFX.out, HZ.out, rfl⟩, HF2.out.trans HFF.out (by simp)⟩
  · obtain ⟨hb1, hb2, hb3⟩ := HBD.out _ _ _ rfl
    have hfx := HFX.out
    simp only [] at hfx
    have HR := Lib.hid hfx
    clear hfx HFX HBD HN
    obtain ⟨b, o, rfl, _, hb⟩ := BytAt.of HV.out (by omega)
    have hcc := HV.out.le_cap
    unfold maxLen at hcc
    have HB := Lib.hid (hb.fr HF2.out (by simp))
    have HO := Lib.hid (OwnF.mono ho HW1.out.size)
    have HTW := Lib.hid (fun (wx : World) (P : Nat) (h1 : P + 2 ≤ L.length) (hx : Fr [] w2 wx) => show Calls Try.prog 28 #[.slice (some ⟨b, o + P, none⟩) (L.length - P) (c - P)] wx fun e w' => e = .returned (.int .i64 ((pr L P : Nat) : Int)) ∧ Fr [] w2 w' ∧ Fr [] wx w' from
      (rrTwo_any wx b (o + P) (L.length - P) (c - P) (gB L P) (gB L (P + 1)) (by omega) (gB_lt _ _) (gB_lt _ _) ((HB.out.fr hx (by simp)) P (by omega)) (by have := (HB.out.fr hx (by simp)) (P + 1) (by omega); rwa [← Nat.add_assoc] at this)).mono fun e w' ⟨h, q, hq⟩ => ⟨h, by rw [hq]; exact hx.drewN q, by rw [hq]; exact (Fr.refl [] wx).drewN q⟩)
    have q4 : (pr L (p + 4) : Int) ≤ 65535 := by have := pr_lt L (p + 4); omega
    have q6 : (pr L (p + 6) : Int) ≤ 65535 := by have := pr_lt L (p + 6); omega
    have q0 : (0 : Int) ≤ (pr L (p + 4) : Int) := by omega
    have hor := or_four (x := (pr L (p + 4) : Int)) (y := (pr L (p + 6) : Int)) q0 q4 (by omega) q6
    generalize hlen : L.length = len at *
    have HLEN := Lib.hid hlen
    have k0 : (p : Int) ≤ (c : Int) := by omega
    have k1 : (p : Int) + 2 ≤ (c : Int) := by omega
    have k2 : (p : Int) + 4 ≤ (c : Int) := by omega
    have k3 : (p : Int) + 6 ≤ (c : Int) := by omega
    have k4 : (p : Int) ≤ (len : Int) := by omega
    have k5 : (p : Int) + 2 ≤ (len : Int) := by omega
    have k6 : (p : Int) + 4 ≤ (len : Int) := by omega
    have k7 : (p : Int) + 6 ≤ (len : Int) := by omega
    have n0 : ¬ c = p := by omega
    have n1 : ¬ c = p + 2 := by omega
    have n2 : ¬ c = p + 4 := by omega
    have n3 : ¬ c = p + 6 := by omega
    have hwr : IntKind.i64.wrap ((pr L (p + 4) : Int) * 65536) = (pr L (p + 4) : Int) * 65536 := IntWalk.i64_in _ (by omega)
    have y2 : (0 : Int) ≤ (p : Int) + 2 := by omega
    have y4 : (0 : Int) ≤ (p : Int) + 4 := by omega
    have y6 : (0 : Int) ≤ (p : Int) + 6 := by omega
    have u2 : ((p : Int) + 2).toNat = p + 2 := by omega
    have u4 : ((p : Int) + 4).toNat = p + 4 := by omega
    have u6 : ((p : Int) + 6).toNat = p + 6 := by omega
    have v2 : IntKind.i64.wrap ((p : Int) + 2) = (p : Int) + 2 := IntWalk.i64_in _ (by omega)
    have v4 : IntKind.i64.wrap ((p : Int) + 4) = (p : Int) + 4 := IntWalk.i64_in _ (by omega)
    have v6 : IntKind.i64.wrap ((p : Int) + 6) = (p : Int) + 6 := IntWalk.i64_in _ (by omega)
    clear hlen ho hf2 hb
    go_upto_region 4 with fail
    go_cut [11] (fun pv wx => ∃ bk, pv = .pointer (some ⟨bk, 0, none⟩) ∧ wx.heap[bk]? = some (.cells #[.slice ua ls.length uc, .int .i64 (pr L p : Nat), .int .i64 (pr L (p + 2) : Nat), .int .i64 ((pr L (p + 4) : Int) * 65536 + (pr L (p + 6) : Int)), .slice none 0 0] 63 (0, 0)) ∧ w2.heap.size ≤ bk ∧ Fr [] w2 wx)
    case first =>
      have HFD := Lib.hid (show Fr [] w2 w2.drew from (Fr.refl [] w2).drew)
      have HFA := Lib.hid (show Fr [] w2 (w2.alloc (.cells #[.slice none 0 0, .int .i64 0, .int .i64 0, .int .i64 0, .slice none 0 0] 63)).drew from ((Fr.refl [] w2).alloc _).drew)
      have hp10 : p + 10 ≤ len := by omega
      clear HV HW1 HB1 HF2 HB2 HR HO HB HLEN hb1 hb2 hb3 hl hcc
      go_region_with (go_at_call 28; (with_reducible refine (HTW.out _ _ (by omega) (by first | with_reducible assumption | with_reducible exact HFD.out | with_reducible exact HFA.out | with_reducible exact HFD.out.alloc _ | (with_reducible refine Fr.alloc ?_ _; assumption))).mono ?_); rintro e wx ⟨rfl, hfx, hfy⟩; (first | ((with_reducible have hA := Lib.hid (blk_behind hfy)); (have a0 := blk_cell hA.out 0 (v := .slice none 0 0) rfl); (have a1 := blk_cell hA.out 1 (v := .int .i64 0) rfl); (have a2 := blk_cell hA.out 2 (v := .int .i64 0) rfl); (have a3 := blk_cell hA.out 3 (v := .int .i64 0) rfl); (have a4 := blk_cell hA.out 4 (v := .slice none 0 0) rfl); (have z0 := blk_frozen hA.out 0); (have z1 := blk_frozen hA.out 1); (have z2 := blk_frozen hA.out 2); (have z3 := blk_frozen hA.out 3); (have z4 := blk_frozen hA.out 4)) | ((with_reducible have hA := Lib.hid (blk_behindD hfy)); (have a0 := blk_cell hA.out 0 (v := .slice none 0 0) rfl); (have a1 := blk_cell hA.out 1 (v := .int .i64 0) rfl); (have a2 := blk_cell hA.out 2 (v := .int .i64 0) rfl); (have a3 := blk_cell hA.out 3 (v := .int .i64 0) rfl); (have a4 := blk_cell hA.out 4 (v := .slice none 0 0) rfl); (have z0 := blk_frozen hA.out 0); (have z1 := blk_frozen hA.out 1); (have z2 := blk_frozen hA.out 2); (have z3 := blk_frozen hA.out 3); (have z4 := blk_frozen hA.out 4)) | ((have hA := Lib.hid (hfy.blk hA.out (by simp))); clear a0 a1 a2 a3 a4 z0 z1 z2 z3 z4; (have a0 := blk_cell hA.out 0 (v := .slice none 0 0) rfl); (have a1 := blk_cell hA.out 1 (v := .int .i64 0) rfl); (have a2 := blk_cell hA.out 2 (v := .int .i64 0) rfl); (have a3 := blk_cell hA.out 3 (v := .int .i64 0) rfl); (have a4 := blk_cell hA.out 4 (v := .slice none 0 0) rfl); (have z0 := blk_frozen hA.out 0); (have z1 := blk_frozen hA.out 1); (have z2 := blk_frozen hA.out 2); (have z3 := blk_frozen hA.out 3); (have z4 := blk_frozen hA.out 4)) | skip))
      all_goals go_wp2_with fail
      all_goals go_meet
      all_goals first
        | with_reducible exact ⟨_, rfl, heap_alloc_new _ _, hfx.size, hfx.alloc _⟩
        | (refine ⟨_, rfl, ?_, ?_, ?_⟩
           · exact setCells_all (w := wx) [.slice ua ls.length uc, .int .i64 (pr L p : Nat), .int .i64 (pr L (p + 2) : Nat), .int .i64 ((pr L (p + 4) : Int) * 65536 + (pr L (p + 6) : Int)), .slice none 0 0] hA.out rfl
           · first
               | with_reducible exact Nat.le_refl _
               | (with_reducible refine Fr.size (S := []) ?_; assumption)
           · refine hfx.trans (setCells_fr (p := _) [.slice ua ls.length uc, .int .i64 (pr L p : Nat), .int .i64 (pr L (p + 2) : Nat), .int .i64 ((pr L (p + 4) : Int) * 65536 + (pr L (p + 6) : Int)), .slice none 0 0] 0 wx) (fun x hx => .inr ?_)
             simp only [List.mem_singleton] at hx
             rw [hx]
             first
               | with_reducible exact Nat.le_refl _
               | (with_reducible refine Fr.size (S := []) ?_; assumption))
    case rest =>
      obtain ⟨bk, rfl, hbk, hge, hf3⟩ := hcut
      have HBK := Lib.hid hbk
      have HGE := Lib.hid hge
      have HF3 := Lib.hid (HF2.out.trans hf3 (by simp))
      have HB3 := Lib.hid (HB.out.fr hf3 (by simp))
      have HR3 := Lib.hid (hf3.blk HB2.out (by simp))
      have HO3 := Lib.hid (OwnF.kept HO.out hf3 (fun _ _ => by simp))
      obtain ⟨D, hD⟩ : ∃ D, sub L (p + 10) (n - (p + 10)) = D := ⟨_, rfl⟩
      have HDL := Lib.hid (show D.length = n - (p + 10) by rw [← hD]; unfold sub; have := HLEN.out; simp; omega)
      have HDG := Lib.hid (show ∀ j, j < D.length → gB D j = gB L (p + 10 + j) from fun j hj => by
        subst hD
        rw [← sub_get L (p + 10) (n - (p + 10)) j hj]
        unfold gB
        rw [List.getD_eq_getElem?_getD, List.getElem?_eq_getElem hj]
        rfl)
      have HRR := Lib.hid (show R = .ok (⟨ls, pr L p, pr L (p + 2), pr L (p + 4) * 65536 + pr L (p + 6), D⟩, n) by rw [HR.out, hD])
      have HCLO := Lib.hid (fun (wx : World) (hx : BytAt wx b o L) (ad : Addr) (h : ad = ⟨b, o + (p + 10), none⟩ ∨ n = p + 10) =>
        clone_bytes wx (.slice (some ad) (n - (p + 10)) (c - (p + 10))) (n - (p + 10)) (fun j => (gB D j : Int)) (.inr ⟨ad, _, rfl, by omega, by unfold maxLen; omega, fun j hj => by
          rcases h with rfl | h
          · show _ = some (Value.int .u8 (gB D j))
            rw [addr_lit_add, HDG.out j (by rw [HDL.out]; exact hj), Nat.add_assoc]
            exact hx (p + 10 + j) (by have := HLEN.out; omega)
          · omega⟩) (by omega))
      have HLB := Lib.hid HB2.out
      clear hD hbk hge hf3 HR HB HO HB2 HF2
      have e0 := blk_cell HBK.out 0 rfl
      have e1 := blk_cell HBK.out 1 rfl
      have k9 : (p : Int) + 10 ≤ (n : Int) := by omega
      have kA : (n : Int) ≤ (c : Int) := by omega
      have kB : (n : Int) ≤ (len : Int) := by omega
      have HLT := Lib.hid (show w.heap.size < w2.heap.size from lt_of_blk HLB.out)
      by_cases hce : c = p + 10
      · have hnp : n = p + 10 := by omega
        have hcl := HCLO.out _ HB3.out ⟨b, o, none⟩ (.inr hnp)
        rw [show c - (p + 10) = 0 by omega] at hcl
        clear hnp
        have HCL := Lib.hid hcl
        clear hcl HCLO e0 e1
        go_wp2_with fail
        with_reducible refine HCL.out.mono ?_
        rintro e w4 ⟨v4, rfl, ho4, hf4⟩
        obtain ⟨da, dc, rfl⟩ := ho4.rd.slice
        have HO4 := Lib.hid (show OwnF w4 w.heap.size 5 (.slice da (n - (p + 10)) dc) D.length (bytV D) by rw [HDL.out]; exact (ho4.mono HF3.out.size).congr (fun j _ => rfl))
        have HN4 := Lib.hid (OwnF.kept HO3.out hf4 (fun _ _ => by simp))
        have HF4 := Lib.hid (HF3.out.trans hf4 (by simp))
        have HB4 := Lib.hid (hf4.blk HBK.out (by simp))
        have HR4 := Lib.hid (hf4.blk HR3.out (by simp))
        have HNE := Lib.hid (show w.heap.size < bk from by have := HGE.out; have := HLT.out; omega)
        have g4 := blk_cell HB4.out 4 rfl
        have z4 := blk_frozen HB4.out 4
        clear ho4 hf4 HCL
        have HB5 := Lib.hid (obj_setk HB4.out 4 (.slice da (n - (p + 10)) dc))
        have hs5 : Fr [bk] w4 (w4.setCell ⟨bk, 4, none⟩ (.slice da (n - (p + 10)) dc)) := (Fr.refl [bk] w4).setCell (p := ⟨bk, 4, none⟩) (.inl (by simp)) _
        have HR5 := Lib.hid (hs5.blk HR4.out (by have := HNE.out; simp; omega))
        have HF5 := Lib.hid (show Fr [] w (w4.setCell ⟨bk, 4, none⟩ (.slice da (n - (p + 10)) dc)) from HF4.out.setCell (p := ⟨bk, 4, none⟩) (.inr (Nat.le_of_lt HNE.out)) _)
        have HN5 := Lib.hid (OwnF.keptP HN4.out hs5 HB4.out (by decide))
        have HO5 := Lib.hid (OwnF.keptP HO4.out hs5 HB4.out (by decide))
        clear hs5
        go_upto_region 6 with fail
        clear g4 z4
        generalize w4.setCell ⟨bk, 4, none⟩ (.slice da (n - (p + 10)) dc) = w5 at *
        have f0 := blk_cell HB5.out 0 (v := .slice ua ls.length uc) rfl
        have f1 := blk_cell HB5.out 1 (v := .int .i64 (pr L p : Nat)) rfl
        have f2 := blk_cell HB5.out 2 (v := .int .i64 (pr L (p + 2) : Nat)) rfl
        have f3 := blk_cell HB5.out 3 (v := .int .i64 ((pr L (p + 4) : Int) * 65536 + (pr L (p + 6) : Int))) rfl
        have f4 := blk_cell HB5.out 4 (v := .slice da (n - (p + 10)) dc) rfl
        have c0 := blk_cell HR5.out 0 (v := .slice none 0 0) rfl
        have c1 := blk_cell HR5.out 1 (v := .int .i64 0) rfl
        have c2 := blk_cell HR5.out 2 (v := .int .i64 0) rfl
        have c3 := blk_cell HR5.out 3 (v := .int .i64 0) rfl
        have c4 := blk_cell HR5.out 4 (v := .slice none 0 0) rfl
        have hz : ∀ j, w5.frozen? ⟨w.heap.size, j, none⟩ = false := fun j => blk_frozen HR5.out j
        go_wp2
        have HBF := Lib.hid (setCells_all (w := w5) (p := w.heap.size) [.slice ua ls.length uc, .int .i64 (pr L p : Nat), .int .i64 (pr L (p + 2) : Nat), .int .i64 ((pr L (p + 4) : Int) * 65536 + (pr L (p + 6) : Int)), .slice da (n - (p + 10)) dc] HR5.out rfl)
        have HFF := Lib.hid (setCells_fr (p := w.heap.size) [.slice ua ls.length uc, .int .i64 (pr L p : Nat), .int .i64 (pr L (p + 2) : Nat), .int .i64 ((pr L (p + 4) : Int) * 65536 + (pr L (p + 6) : Int)), .slice da (n - (p + 10)) dc] 0 w5)
        change bodyPost _ _ _ _ _ (w5.setCells w.heap.size 0 [.slice ua ls.length uc, .int .i64 (pr L p : Nat), .int .i64 (pr L (p + 2) : Nat), .int .i64 ((pr L (p + 4) : Int) * 65536 + (pr L (p + 6) : Int)), .slice da (n - (p + 10)) dc])
        have HNF := Lib.hid (OwnF.keptP HN5.out HFF.out HR5.out (by decide))
        have HOF := Lib.hid (OwnF.keptP HO5.out HFF.out HR5.out (by decide))
        generalize w5.setCells w.heap.size 0 [.slice ua ls.length uc, .int .i64 (pr L p : Nat), .int .i64 (pr L (p + 2) : Nat), .int .i64 ((pr L (p + 4) : Int) * 65536 + (pr L (p + 6) : Int)), .slice da (n - (p + 10)) dc] = wF at *
        have r0 := blk_cell HBF.out 0 (v := .slice ua ls.length uc) rfl
        have r1 := blk_cell HBF.out 1 (v := .int .i64 (pr L p : Nat)) rfl
        have r2 := blk_cell HBF.out 2 (v := .int .i64 (pr L (p + 2) : Nat)) rfl
        have r3 := blk_cell HBF.out 3 (v := .int .i64 ((pr L (p + 4) : Int) * 65536 + (pr L (p + 6) : Int))) rfl
        have r4 := blk_cell HBF.out 4 (v := .slice da (n - (p + 10)) dc) rfl
        refine bodyPost_ret (v := .tuple #[.agg #[.slice ua ls.length uc, .int .i64 (pr L p : Nat), .int .i64 (pr L (p + 2) : Nat), .int .i64 ((pr L (p + 4) : Int) * 65536 + (pr L (p + 6) : Int)), .slice da (n - (p + 10)) dc], .int .i64 n, .nilIface]) (by simp [results, Try.results19, go_sem, r0, r1, r2, r3, r4]) rfl ?_
        exact ⟨.inr ⟨⟨ls, pr L p, pr L (p + 2), pr L (p + 4) * 65536 + pr L (p + 6), D⟩, n, ua, uc, da, dc, HRR.out, by rw [HDL.out], HNF.out, by rw [HDL.out] at *; exact HOF.out⟩, HF5.out.trans HFF.out (by simp)⟩
      · have hcl := HCLO.out _ HB3.out ⟨b, o + (p + 10), none⟩ (.inl rfl)
        have HCL := Lib.hid hcl
        clear hcl HCLO e0 e1
        go_wp2_with fail
        with_reducible refine HCL.out.mono ?_
        rintro e w4 ⟨v4, rfl, ho4, hf4⟩
        obtain ⟨da, dc, rfl⟩ := ho4.rd.slice
        have HO4 := Lib.hid (show OwnF w4 w.heap.size 5 (.slice da (n - (p + 10)) dc) D.length (bytV D) by rw [HDL.out]; exact (ho4.mono HF3.out.size).congr (fun j _ => rfl))
        have HN4 := Lib.hid (OwnF.kept HO3.out hf4 (fun _ _ => by simp))
        have HF4 := Lib.hid (HF3.out.trans hf4 (by simp))
        have HB4 := Lib.hid (hf4.blk HBK.out (by simp))
        have HR4 := Lib.hid (hf4.blk HR3.out (by simp))
        have HNE := Lib.hid (show w.heap.size < bk from by have := HGE.out; have := HLT.out; omega)
        have g4 := blk_cell HB4.out 4 rfl
        have z4 := blk_frozen HB4.out 4
        clear ho4 hf4 HCL
        have HB5 := Lib.hid (obj_setk HB4.out 4 (.slice da (n - (p + 10)) dc))
        have hs5 : Fr [bk] w4 (w4.setCell ⟨bk, 4, none⟩ (.slice da (n - (p + 10)) dc)) := (Fr.refl [bk] w4).setCell (p := ⟨bk, 4, none⟩) (.inl (by simp)) _
        have HR5 := Lib.hid (hs5.blk HR4.out (by have := HNE.out; simp; omega))
        have HF5 := Lib.hid (show Fr [] w (w4.setCell ⟨bk, 4, none⟩ (.slice da (n - (p + 10)) dc)) from HF4.out.setCell (p := ⟨bk, 4, none⟩) (.inr (Nat.le_of_lt HNE.out)) _)
        have HN5 := Lib.hid (OwnF.keptP HN4.out hs5 HB4.out (by decide))
        have HO5 := Lib.hid (OwnF.keptP HO4.out hs5 HB4.out (by decide))
        clear hs5
        go_upto_region 6 with fail
        clear g4 z4
        generalize w4.setCell ⟨bk, 4, none⟩ (.slice da (n - (p + 10)) dc) = w5 at *
        have f0 := blk_cell HB5.out 0 (v := .slice ua ls.length uc) rfl
        have f1 := blk_cell HB5.out 1 (v := .int .i64 (pr L p : Nat)) rfl
        have f2 := blk_cell HB5.out 2 (v := .int .i64 (pr L (p + 2) : Nat)) rfl
        have f3 := blk_cell HB5.out 3 (v := .int .i64 ((pr L (p + 4) : Int) * 65536 + (pr L (p + 6) : Int))) rfl
        have f4 := blk_cell HB5.out 4 (v := .slice da (n - (p + 10)) dc) rfl
        have c0 := blk_cell HR5.out 0 (v := .slice none 0 0) rfl
        have c1 := blk_cell HR5.out 1 (v := .int .i64 0) rfl
        have c2 := blk_cell HR5.out 2 (v := .int .i64 0) rfl
        have c3 := blk_cell HR5.out 3 (v := .int .i64 0) rfl
        have c4 := blk_cell HR5.out 4 (v := .slice none 0 0) rfl
        have hz : ∀ j, w5.frozen? ⟨w.heap.size, j, none⟩ = false := fun j => blk_frozen HR5.out j
        go_wp2
        have HBF := Lib.hid (setCells_all (w := w5) (p := w.heap.size) [.slice ua ls.length uc, .int .i64 (pr L p : Nat), .int .i64 (pr L (p + 2) : Nat), .int .i64 ((pr L (p + 4) : Int) * 65536 + (pr L (p + 6) : Int)), .slice da (n - (p + 10)) dc] HR5.out rfl)
        have HFF := Lib.hid (setCells_fr (p := w.heap.size) [.slice ua ls.length uc, .int .i64 (pr L p : Nat), .int .i64 (pr L (p + 2) : Nat), .int .i64 ((pr L (p + 4) : Int) * 65536 + (pr L (p + 6) : Int)), .slice da (n - (p + 10)) dc] 0 w5)
        change bodyPost _ _ _ _ _ (w5.setCells w.heap.size 0 [.slice ua ls.length uc, .int .i64 (pr L p : Nat), .int .i64 (pr L (p + 2) : Nat), .int .i64 ((pr L (p + 4) : Int) * 65536 + (pr L (p + 6) : Int)), .slice da (n - (p + 10)) dc])
        have HNF := Lib.hid (OwnF.keptP HN5.out HFF.out HR5.out (by decide))
        have HOF := Lib.hid (OwnF.keptP HO5.out HFF.out HR5.out (by decide))
        generalize w5.setCells w.heap.size 0 [.slice ua ls.length uc, .int .i64 (pr L p : Nat), .int .i64 (pr L (p + 2) : Nat), .int .i64 ((pr L (p + 4) : Int) * 65536 + (pr L (p + 6) : Int)), .slice da (n - (p + 10)) dc] = wF at *
        have r0 := blk_cell HBF.out 0 (v := .slice ua ls.length uc) rfl
        have r1 := blk_cell HBF.out 1 (v := .int .i64 (pr L p : Nat)) rfl
        have r2 := blk_cell HBF.out 2 (v := .int .i64 (pr L (p + 2) : Nat)) rfl
        have r3 := blk_cell HBF.out 3 (v := .int .i64 ((pr L (p + 4) : Int) * 65536 + (pr L (p + 6) : Int))) rfl
        have r4 := blk_cell HBF.out 4 (v := .slice da (n - (p + 10)) dc) rfl
        refine bodyPost_ret (v := .tuple #[.agg #[.slice ua ls.length uc, .int .i64 (pr L p : Nat), .int .i64 (pr L (p + 2) : Nat), .int .i64 ((pr L (p + 4) : Int) * 65536 + (pr L (p + 6) : Int)), .slice da (n - (p + 10)) dc], .int .i64 n, .nilIface]) (by simp [results, Try.results19, go_sem, r0, r1, r2, r3, r4]) rfl ?_
        exact ⟨.inr ⟨⟨ls, pr L p, pr L (p + 2), pr L (p + 4) * 65536 + pr L (p + 6), D⟩, n, ua, uc, da, dc, HRR.out, by rw [HDL.out], HNF.out, by rw [HDL.out] at *; exact HOF.out⟩, HF5.out.trans HFF.out (by simp)⟩

end Go.Proofs.Ytkdmkpdooiacaaa
