/- The reference's with: an entry laid first. -/
import Derived.BigQuiet
import Derived.Test.YtkdmkpdooiacaaaDoorZbase3
import Derived.Test.YtkdmkpdooiacaaaDoorZbase5
import Derived.Test.YtkdmkpdooiacaaaDoorZbase1
namespace Go.Proofs.YtkdmkpdooiacaaaDoor
open Go.RowKit

theorem infoREn : (Tryd.prog.info? 82).map (fun i => (i.zero, i.size, i.bytes)) = some (some (.agg #[.slice none 0 0, .int .i64 0, .bool false, .int .i64 0, .bool false, .bool false, .bool false, .bool false, .bool false, .bool false, .bool false, .int .i64 0, .slice none 0 0, .slice none 0 0, .slice none 0 0, .slice none 0 0, .int .i64 0, .int .i64 0]), 18, 176) := by kernel_rfl

/-- one entry in a block of its own -/
theorem rdc_re (w : World) (E : TypeId) (x : En × RV) {b : Nat} (hb : w.heap.size = b) : RdC (w.alloc (.cells (reCs x.1 (x.2.k x.1) (x.2.q x.1) (x.2.a x.1) (x.2.u x.1) (x.2.m x.1)) E)) (.slice (some ⟨b, 0, none⟩) 1 1) 18 1 (fun _ => x.2.F x.1) := by
  subst hb
  have hn := heap_alloc_new w (.cells (reCs x.1 (x.2.k x.1) (x.2.q x.1) (x.2.a x.1) (x.2.u x.1) (x.2.m x.1)) E)
  refine .inr ⟨_, 1, rfl, Nat.le_refl _, by decide, fun j hj => ?_⟩
  rw [addr_lit_add, Nat.zero_add]
  have hj' : j < 18 := by omega
  unfold fls
  rw [Nat.mod_eq_of_lt hj']
  exact blk_cell hn j (reCs_get _ _ _ _ _ _ j hj')

theorem ownc_re (w : World) (x : En × RV) (B : Nat) (hB : B ≤ w.heap.size) : OwnC (w.alloc (.cells (reCs x.1 (x.2.k x.1) (x.2.q x.1) (x.2.a x.1) (x.2.u x.1) (x.2.m x.1)) 82)) B 82 (.slice (some ⟨w.heap.size, 0, none⟩) 1 1) 18 1 (fun _ => x.2.F x.1) := by
  have hn := heap_alloc_new w (.cells (reCs x.1 (x.2.k x.1) (x.2.q x.1) (x.2.a x.1) (x.2.u x.1) (x.2.m x.1)) 82)
  refine .inr ⟨w.heap.size, 1, rfl, hB, _, hn, rfl, Nat.le_refl _, by decide, fun j hj => ?_⟩
  have hj' : j < 18 := by omega
  unfold fls
  rw [Nat.mod_eq_of_lt hj']
  exact reCs_get _ _ _ _ _ _ j hj'

/-- the cells of a list's entries -/
def rF (l : List (En × RV)) (i : Nat) : Nat → Value := ((l[i]?.map (fun x => x.2.F x.1)).getD (fun _ => undef))

theorem rF_at {l : List (En × RV)} {i : Nat} (h : i < l.length) : rF l i = (l[i]).2.F (l[i]).1 := by
  unfold rF
  rw [List.getElem?_eq_getElem h]
  rfl

theorem rF_app (l : List (En × RV)) (x : En × RV) (i : Nat) (h : i < l.length + 1) : appC l.length (rF l) (fun _ => x.2.F x.1) i = rF (l ++ [x]) i := by
  unfold appC rF
  by_cases hi : i < l.length
  · simp [hi, List.getElem?_append_left]
  · obtain rfl : i = l.length := by omega
    simp

theorem three_newA (w : World) (x y z : Obj) : (((w.alloc x).alloc y).alloc z).heap[w.heap.size]? = some x ∧ (((w.alloc x).alloc y).alloc z).heap[w.heap.size + 1]? = some y ∧ (((w.alloc x).alloc y).alloc z).heap[w.heap.size + 1 + 1]? = some z := by
  have s1 : (w.alloc x).heap.size = w.heap.size + 1 := by simp
  have s2 : ((w.alloc x).alloc y).heap.size = w.heap.size + 1 + 1 := by simp
  refine ⟨(((Fr.refl [] _).alloc y).alloc z).blk (heap_alloc_new w x) (by simp), ?_, ?_⟩
  · have h := ((Fr.refl [] _).alloc z).blk (heap_alloc_new (w.alloc x) y) (by simp)
    rwa [s1] at h
  · have h := heap_alloc_new ((w.alloc x).alloc y) z
    rwa [s2] at h

theorem en_cs_size (e : En) (k q a u m : Value) : (reCs e k q a u m).size = 18 := rfl

theorem ownc_arr (w : World) (C : Array Value) (G : Nat → Value) (hs : C.size = 18) (hC : ∀ c, c < 18 → C[c]? = some (G c)) : OwnC (w.alloc (.cells C 82)) w.heap.size 82 (.slice (some ⟨w.heap.size, 0, none⟩) 1 1) 18 1 (fun _ => G) := by
  have hn := heap_alloc_new w (.cells C 82)
  refine .inr ⟨w.heap.size, 1, rfl, Nat.le_refl _, _, hn, by rw [hs], Nat.le_refl _, by decide, fun j hj => ?_⟩
  have hj' : j < 18 := by omega
  unfold fls
  rw [Nat.mod_eq_of_lt hj']
  exact hC j hj'

set_option maxHeartbeats 8000000 in
set_option maxRecDepth 100000 in
theorem with_any (w : World) (B : HB) (hS : ∀ x ∈ B.s, x < w.heap.size) (v : Value) (l : List (En × RV)) (n : Nat) (hn1 : 1 ≤ n) (hn : n ≤ 64) (hl : l.length ≤ 64) (hC : RCa B w v l) (x : En × RV) (hx : REn B w x.1 x.2) :
    Calls Tryd.prog 25 #[.agg #[v, .int .i64 n], x.2.V x.1] w fun e w' => ∃ v', e = .returned (.agg #[v', .int .i64 n]) ∧ RCa B w' v' (withGo n x.1.key [x] l) ∧ Fr [] w w' := by
  have HC := Lib.hid hC
  have HX := Lib.hid hx
  have HSS := Lib.hid hS
  obtain ⟨va, vc, rfl⟩ := hC.rd.slice
  clear hC hx hS
  unfold RV.V
  have HXC := Lib.hid (fun c hc => reCs_get x.1 (x.2.k x.1) (x.2.q x.1) (x.2.a x.1) (x.2.u x.1) (x.2.m x.1) c hc)
  have HXS := Lib.hid (en_cs_size x.1 (x.2.k x.1) (x.2.q x.1) (x.2.a x.1) (x.2.u x.1) (x.2.m x.1))
  obtain ⟨CX, hCX⟩ : ∃ C, reCs x.1 (x.2.k x.1) (x.2.q x.1) (x.2.a x.1) (x.2.u x.1) (x.2.m x.1) = C := ⟨_, rfl⟩
  rw [hCX] at HXC HXS ⊢
  clear hCX
  have HX0 := Lib.hid (show CX[0]? = some (.slice x.2.ka x.1.key.length x.2.kc) from HXC.out 0 (by decide))
  have HXL := Lib.hid (show (Tryd.prog.info? 82).map (·.size) = some CX.toList.length from by
    rw [Array.length_toList, HXS.out]
    kernel_rfl)
  have HEN := Lib.hid (fun (W : World) => (ownc_arr W CX _ HXS.out HXC.out).congr (by decide) (G := rF [x]) (fun i c hi _ => by
    obtain rfl : i = 0 := by omega
    rfl))
  go_enter Tryd.func25, Tryd.ntmps25
  go_upto_region 1 with fail
  have HF0 := Lib.hid (show Fr [] w (((w.alloc (.cells #[.slice va l.length vc, .int .i64 n] 34)).alloc (.cells CX 82)).alloc (.cells #[.slice none 0 0, .int .i64 0] 34)) from (((Fr.refl [] w).alloc _).alloc _).alloc _)
  obtain ⟨hb0, hb1, hb2⟩ := three_newA w (.cells #[.slice va l.length vc, .int .i64 n] 34) (.cells CX 82) (.cells #[.slice none 0 0, .int .i64 0] 34)
  have HB0 := Lib.hid hb0
  have HB1 := Lib.hid hb1
  have HB2 := Lib.hid hb2
  clear hb0 hb1 hb2
  generalize ((w.alloc (.cells #[.slice va l.length vc, .int .i64 n] 34)).alloc (.cells CX 82)).alloc (.cells #[.slice none 0 0, .int .i64 0] 34) = W at *
  have hr1 := rng_arr HB1.out
  have HOW2 := Lib.hid (HEN.out W)
  have HFW := Lib.hid (show Fr [] W (W.alloc (.cells CX 82)) from (Fr.refl [] W).alloc _)
  go_upto_region 3 with (first
    | ((with_reducible refine wpList_loadArr ?_ 82 (.tmp 3) ?_ (w.heap.size + 1) 0 ?_ CX _ ?_ Tryd.underlying82 ?_ ?_ ?_); rfl; rfl; rfl; exact hr1; rfl; exact HXL.out)
    | ((with_reducible refine wpList_buildOne ?_ 32 82 (.tmp 7) ?_ infoREn Tryd.underlying32 ?_ ?_ ?_ CX ?_ ?_ ?_); rfl; rfl; rfl; decide; decide; rfl; exact HXS.out)
    | fail)
  clear hr1
  have HBW0 := Lib.hid (HFW.out.blk HB0.out (by simp))
  have HBW1 := Lib.hid (HFW.out.blk HB1.out (by simp))
  have HBW2 := Lib.hid (HFW.out.blk HB2.out (by simp))
  have HFW2 := Lib.hid (HF0.out.trans HFW.out (by simp))
  have HNB := Lib.hid (show w.heap.size + 3 ≤ W.heap.size from by have := lt_of_blk HB2.out; omega)
  have HW2S := Lib.hid (show (W.alloc (.cells CX 82)).heap.size = W.heap.size + 1 from by simp)
  clear HB0 HB1 HB2 HF0 HFW
  generalize W.alloc (.cells CX 82) = W2 at *
  generalize W.heap.size = nb at *
  clear HEN
  have HKC := Lib.hid (show W2.cell? ⟨w.heap.size + 1, 0, none⟩ = some (.slice x.2.ka x.1.key.length x.2.kc) from blk_cell HBW1.out 0 HX0.out)
  clear HBW1
  go_loopw [5, 6] (fun vo vi wr => ∃ (k : Nat) (out : List (En × RV)), k ≤ l.length ∧ vi = .int .i64 k ∧ out = withGo n x.1.key [x] (l.take k) ∧ OwnC wr nb 82 vo 18 out.length (rF out) ∧ Fr [nb] W2 wr) (fun _ vi _ => l.length - (intOf vi).toNat)
  case atStart => exact ⟨0, [x], by omega, rfl, by simp [withGo], HOW2.out, Fr.refl _ _⟩
  case round =>
    obtain ⟨k, out, hk, rfl, hout, ho, hf⟩ := hrel
    have HOUT := Lib.hid hout
    have HF := Lib.hid hf
    have HFW3 := Lib.hid (show Fr [] w wr from HFW2.out.trans hf (by have := HNB.out; simp; omega))
    have HN3 := HNB.out
    obtain ⟨oa, oc, rfl⟩ := ho.rd.slice
    have HO := Lib.hid ho
    have HLE := Lib.hid (show out.length ≤ n by rw [hout]; exact withGo_len n _ _ _ (by simpa using hn1))
    clear HOW2 hout hf ho
    have c0 := blk_cell (HF.out.blk HBW0.out (by simp; omega)) 0 (v := .slice va l.length vc) rfl
    have c1 := blk_cell (HF.out.blk HBW0.out (by simp; omega)) 1 (v := .int .i64 (n : Int)) rfl
    have x0 := HF.out.cell HKC.out (by simp; omega)
    by_cases hlt : k < l.length
    · obtain ⟨y, hy⟩ : ∃ y, l[k]'hlt = y := ⟨_, rfl⟩
      have HY := Lib.hid ((HC.out.all y (by rw [← hy]; exact List.getElem_mem _)).frH (HFW3.out.hot0 B))
      have HXW := Lib.hid (HX.out.frH (HFW3.out.hot0 B))
      obtain ⟨b1, o1, cc1, he1, _, _, _, hc1⟩ := (HC.out.rd.fr HFW3.out).shape (by omega) (by decide)
      simp only [Value.slice.injEq, true_and] at he1
      obtain ⟨rfl, rfl⟩ := he1
      have HCE := Lib.hid (fun c hc => (hc1 k c hlt hc).trans (congrArg some (congrFun (show ((l[k]?.map (fun x => x.2.F x.1)).getD (fun _ => undef)) = y.2.F y.1 by rw [List.getElem?_eq_getElem hlt, hy]; rfl) c)))
      clear hc1
      have y0 := HCE.out 0 (by decide)
      have hyF : y.2.F y.1 0 = y.2.k y.1 := rfl
      rw [hyF] at y0
      clear hyF
      simp only [Nat.add_zero] at y0
      have k0 : (0 : Int) ≤ (k : Int) := by omega
      have k3 : (k : Int) < (l.length : Int) := by omega
      have HTK := Lib.hid (show l.take (k + 1) = l.take k ++ [y] by rw [List.take_add_one, List.getElem?_eq_getElem hlt, hy]; rfl)
      have HSB := Lib.hid (fun (wx : World) (hx : Fr [] wr wx) => sameB_any wx y.2.ka x.2.ka y.1.key.length x.1.key.length y.2.kc x.2.kc (fun j => ((y.1.key.getD j 0).toNat : Int)) (fun j => ((x.1.key.getD j 0).toNat : Int)) (HY.out.key.fr hx (by simp)) (HXW.out.key.fr hx (by simp)) (by have := HY.out.key.le_cap; unfold maxLen at this; omega) (by have := HXW.out.key.le_cap; unfold maxLen at this; omega))
      rw [sameB_kEq] at HSB
      have HKY := Lib.hid (show y.2.k y.1 = .slice y.2.ka y.1.key.length y.2.kc from rfl)
      rw [HKY.out] at y0
      obtain ⟨kb, hkb⟩ : ∃ kb, kEq y.1.key x.1.key = kb := ⟨_, rfl⟩
      rw [hkb] at HSB
      have HKB := Lib.hid hkb
      have HYC := Lib.hid (fun c hc => reCs_get y.1 (y.2.k y.1) (y.2.q y.1) (y.2.a y.1) (y.2.u y.1) (y.2.m y.1) c hc)
      have HYS := Lib.hid (en_cs_size y.1 (y.2.k y.1) (y.2.q y.1) (y.2.a y.1) (y.2.u y.1) (y.2.m y.1))
      obtain ⟨CY, hCY⟩ : ∃ C, reCs y.1 (y.2.k y.1) (y.2.q y.1) (y.2.a y.1) (y.2.u y.1) (y.2.m y.1) = C := ⟨_, rfl⟩
      rw [hCY] at HYC HYS
      clear hCY
      have HYL := Lib.hid (show (Tryd.prog.info? 82).map (·.size) = some CY.toList.length from by
        rw [Array.length_toList, HYS.out]
        kernel_rfl)
      have HC0 := Lib.hid c0
      clear hkb hy
      cases kb with
      | true =>
        go_upto_region 5 with fail
        go_quiet ((go_at_call 30; exact Calls.quiet_of (HSB.out _ (by first | exact (Fr.refl [] wr).drew | exact (Fr.refl [] wr).drewN _ | exact ((Fr.refl [] wr).drew).drewN _))))
        go_wp2
        go_roundw
        case rel => exact ⟨k + 1, out, by omega, by go_num, by rw [HTK.out, withGo_snoc, ← HOUT.out, if_neg (fun h => by rw [HKB.out] at h; cases h.1)], OwnC.kept HO.out ((Fr.refl [] wr).drewN _) (fun _ _ => by simp), HF.out.drewN _⟩
        case measure => (simp [intOf] <;> omega)
      | false =>
        by_cases hroom : out.length < n
        · have r1 : (out.length : Int) < (n : Int) := by omega
          have HROOM := Lib.hid hroom
          clear hroom
          go_upto_region 5 with fail
          go_quiet ((go_at_call 30; exact Calls.quiet_of (HSB.out _ (by first | exact (Fr.refl [] wr).drew | exact (Fr.refl [] wr).drewN _ | exact ((Fr.refl [] wr).drew).drewN _))))
          have hg7 : Fr [] wr (wr.drewN nq) := (Fr.refl [] wr).drewN _
          have HG7 := Lib.hid hg7
          generalize wr.drewN nq = w7 at *
          have hr7 : w7.rangeAt b1 (o1 + k * 18) CY.toList := fun j u hj => by
            have hj18 : j < 18 := by
              have := (List.getElem?_eq_some_iff.1 hj).1
              rw [Array.length_toList, HYS.out] at this
              exact this
            have h2 := HYC.out j hj18
            have h3 : CY[j]? = some u := by rw [← Array.getElem?_toList]; exact hj
            rw [h2] at h3
            rw [← Option.some.inj h3]
            exact hg7.cell (HCE.out j hj18) (by simp)
          have c0' : w7.cell? ⟨w.heap.size, 0, none⟩ = some (.slice (some ⟨b1, o1, none⟩) l.length vc) := hg7.cell HC0.out (by simp)
          have HO7 := Lib.hid (OwnC.kept HO.out hg7 (fun _ _ => by simp))
          have HF7 := Lib.hid (HF.out.trans hg7 (by simp))
          clear hg7
          have HONE := Lib.hid (show ∀ j, j < 1 * 18 → (fls 18 (fun _ => y.2.F y.1) j).oneCell' = true from fun j hj => RV.one y.2 y.1 (j % 18) (Nat.mod_lt _ (by decide)))
          have HOA := Lib.hid (OwnC.kept HO7.out ((Fr.refl [] w7).alloc (.cells CY 82)) (fun _ _ => by simp))
          have HRE := Lib.hid (show RdC (w7.alloc (.cells CY 82)) (.slice (some ⟨w7.heap.size, 0, none⟩) 1 1) 18 1 (fun _ => y.2.F y.1) from (ownc_arr w7 CY _ HYS.out HYC.out).rd)
          go_wp2_with (first
          | ((with_reducible refine wpList_loadArr ?_ 82 (.tmp 37) ?_ b1 (o1 + k * 18) ?_ CY _ ?_ Tryd.underlying82 ?_ ?_ ?_); rfl; rfl; rfl; exact hr7; rfl; exact HYL.out)
          | ((with_reducible refine wpList_buildOne ?_ 32 82 (.tmp 38) ?_ infoREn Tryd.underlying32 ?_ ?_ ?_ CY ?_ ?_ ?_); rfl; rfl; rfl; decide; decide; rfl; exact HYS.out)
          | (at_builtin; refine Shut.out ?_)
          | fail)
          unfold Shut
          with_reducible refine wpList_appC ?_ (.tmp 33) (.tmp 39) 32 ?_ 82 infoREn Tryd.underlying32 ?_ ?_ HONE.out HOA.out ?_ HRE.out ?_ ?_ ?_ ?_ ?_
          rfl; rfl; rfl; decide; rfl; rfl; (unfold maxLen; omega); omega; (have := HF7.out.size; have := HW2S.out; simp; omega)
          intro v8 w8 hown8 hfr8 _
          have HO8 := Lib.hid (hown8.congr (by decide) (G := rF (out ++ [y])) (fun i c hi _ => by rw [rF_app out y i (by omega)]))
          have HF8 := Lib.hid (hfr8)
          clear hown8 hfr8
          go_wp2_with fail
          go_roundw
          case rel => exact ⟨k + 1, out ++ [y], by omega, by go_num, by rw [HTK.out, withGo_snoc, ← HOUT.out, if_pos ⟨HKB.out, HROOM.out⟩], by rw [List.length_append]; exact HO8.out, (HF7.out.alloc _).trans HF8.out (fun z hz => by have h1 := OwnC.ge HO7.out z hz; have h2 := HW2S.out; simp only [List.mem_singleton]; omega)⟩
          case measure => (simp [intOf] <;> omega)
        · have r1 : ¬ (out.length : Int) < (n : Int) := by omega
          have HROOM := Lib.hid hroom
          clear hroom
          go_upto_region 5 with fail
          go_quiet ((go_at_call 30; exact Calls.quiet_of (HSB.out _ (by first | exact (Fr.refl [] wr).drew | exact (Fr.refl [] wr).drewN _ | exact ((Fr.refl [] wr).drew).drewN _))))
          go_wp2
          go_roundw
          case rel => exact ⟨k + 1, out, by omega, by go_num, by rw [HTK.out, withGo_snoc, ← HOUT.out, if_neg (fun h => HROOM.out h.2)], OwnC.kept HO.out ((Fr.refl [] wr).drewN _) (fun _ _ => by simp), HF.out.drewN _⟩
          case measure => (simp [intOf] <;> omega)
    · obtain rfl : k = l.length := by omega
      have b2 := blk_frozen (HF.out.blk HBW2.out (by simp; omega)) 0
      have b3 := blk_frozen (HF.out.blk HBW2.out (by simp; omega)) 1
      have d0 := blk_cell (HF.out.blk HBW2.out (by simp; omega)) 0 (v := .slice none 0 0) rfl
      have d1 := blk_cell (HF.out.blk HBW2.out (by simp; omega)) 1 (v := .int .i64 0) rfl
      have HS9 := Lib.hid (show Fr [w.heap.size + 1 + 1] wr ((wr.setCell ⟨w.heap.size + 1 + 1, 0, none⟩ (.slice oa out.length oc)).setCell ⟨w.heap.size + 1 + 1, 1, none⟩ (.int .i64 n)) from ((Fr.refl [w.heap.size + 1 + 1] wr).setCell (p := ⟨w.heap.size + 1 + 1, 0, none⟩) (.inl (by simp)) _).setCell (p := ⟨w.heap.size + 1 + 1, 1, none⟩) (.inl (by simp)) _)
      have HB9 := Lib.hid (blk_set2 (HF.out.blk HBW2.out (by simp; omega)) (.slice oa out.length oc) (.int .i64 n))
      go_wp2
      have r0 := blk_cell HB9.out 0 (v := .slice oa out.length oc) rfl
      have r1 := blk_cell HB9.out 1 (v := .int .i64 (n : Int)) rfl
      have HFE := Lib.hid (show Fr [] w _ from HFW3.trans HS9.out (by simp; omega))
      have HOE := Lib.hid (OwnC.kept HO.out HS9.out (fun g hg => by have h1 := OwnC.ge HO.out g (by rw [hg]; simp); simp only [List.mem_singleton]; omega))
      have HWG := Lib.hid (show out = withGo n x.1.key [x] l by rw [HOUT.out, List.take_length])
      refine bodyPost_ret (v := .agg #[.slice oa out.length oc, .int .i64 n]) (by simp [results, Tryd.results25, go_sem, r0, r1]) rfl ?_
      rw [← HWG.out]
      refine ⟨_, rfl, ⟨HOE.out.rd, HOE.out.cold (by decide) B (fun z hz => by have := HSS.out z hz; omega), fun z hz => ?_⟩, HFE.out⟩
      rw [HWG.out] at hz
      rcases withGo_mem _ _ _ _ z hz with h | h
      · simp only [List.mem_singleton] at h
        subst h
        exact HX.out.frH (HFE.out.hot0 B)
      · exact (HC.out.all z h).frH (HFE.out.hot0 B)

end Go.Proofs.YtkdmkpdooiacaaaDoor
