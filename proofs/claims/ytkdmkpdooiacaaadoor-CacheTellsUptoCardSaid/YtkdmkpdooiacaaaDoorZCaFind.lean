/- cache.find: the walk. -/
import Derived.Test.YtkdmkpdooiacaaaDoorZbase3
namespace Go.Proofs.YtkdmkpdooiacaaaDoor
open Go.RowKit

set_option maxHeartbeats 2000000 in
set_option maxRecDepth 100000 in
theorem findC_any (w : World) (e : En) (qa aa ua ma : Option Addr) (qn an un mn qc ac uc mc : Nat) (bk : Nat) (key : List UInt8) (hb : w.cell? ⟨bk, 0, none⟩ = some (.string (keyB key))) :
    Calls Tryd.prog 57 #[enV e (.slice qa qn qc) (.slice aa an ac) (.slice ua un uc) (.slice ma mn mc), .pointer (some ⟨bk, 0, none⟩)] w fun ed w' => ed = .returned (.bool (kEq e.key key)) ∧ Fr [] w w' := by
  obtain ⟨k, ⟨⟨h0, h1, h2, h3, h4, h5, h6, h7, h8, h9, h10⟩, a1, a2, a3, a4, a5, a6, a7, a8⟩, at_, lf⟩ := e
  have HK := Lib.hid (show ((keyB k).toList == (keyB key).toList) = kEq k key from rfl)
  unfold enV
  simp only
  generalize keyB k = x at *
  generalize keyB key = y at *
  have hlt := World.block_lt_of_cell? w _ hb
  simp only at hlt
  go_enter Tryd.func57, Tryd.ntmps57
  go_wp2
  go_ret
  exact ⟨by rw [← HK.out]; rfl, (Fr.refl [] w).alloc _⟩

set_option maxHeartbeats 4000000 in
set_option maxRecDepth 100000 in
theorem idxEn_any (w : World) (B : HB) (a : Option Addr) (c : Nat) (l : List En) (F : Nat → Nat → Value) (bk : Nat) (key : List UInt8) (hR : EnRow B w (.slice a l.length c) l F) (hb : w.cell? ⟨bk, 0, none⟩ = some (.string (keyB key))) :
    Calls Tryd.prog 56 #[.slice a l.length c, .func (.func 57) #[] #[.pointer (some ⟨bk, 0, none⟩)]] w fun e w' => e = .returned (.int .i64 (fI key l)) ∧ Fr [] w w' := by
  have hcap : l.length ≤ 9223372036854775807 := by
    rcases hR.ho with ⟨h, h0⟩ | ⟨g, cap, h, _, hr⟩
    · omega
    · have h1 := hr.le
      have h2 := hr.cap_le
      unfold maxLen at h2
      omega
  have HR := Lib.hid hR
  have HB := Lib.hid hb
  clear hR hb
  go_enter Tryd.func56, Tryd.ntmps56
  go_wp2_with fail
  go_loopw [8] (fun vi wr => ∃ k : Nat, k ≤ l.length ∧ vi = .int .i64 k ∧ (∀ j (hj : j < l.length), j < k → kEq l[j].key key = false) ∧ Fr [] w wr) (fun vi _ => l.length - (intOf vi).toNat)
  case atStart => exact ⟨0, by omega, rfl, fun j _ hj => by omega, Fr.refl _ _⟩
  case round =>
    obtain ⟨k, hk, rfl, hne, hf⟩ := hrel
    have HNE := Lib.hid hne; clear hne
    have HF := Lib.hid hf; clear hf
    by_cases hlt : k < l.length
    · have hll : k < l.length := hlt
      obtain ⟨b1, o1, c1, he1, hn1, hm1, _, hc1⟩ := HR.out.ho.rd.shape (by omega) (by decide)
      simp only [Value.slice.injEq, true_and] at he1
      obtain ⟨rfl, rfl⟩ := he1
      clear hn1 hm1
      obtain ⟨qa, aa, ua, ma, qc, ac, uc, mc, hF, _⟩ := HR.out.at_ k hll
      have HIT := Lib.hid (fun h => fIx_hit (key := key) hll (fun j hj => HNE.out j (by omega) hj) h)
      have HC := Lib.hid (fun (wx : World) (h : Fr [] w wx) => findC_any wx l[k] qa aa ua ma l[k].m.qn l[k].m.an l[k].m.un l[k].m.mn qc ac uc mc bk key (h.cell HB.out (by simp)))
      have HKE := Lib.hid (show kEq l[k].key key = kEq l[k].key key from rfl)
      generalize hx : l[k] = x at *
      have k0 : (0 : Int) ≤ (k : Int) := by omega
      have k9 : (k : Int) < (l.length : Int) := by omega
      have e0 := HF.out.cell (hc1 k 0 hll (by decide)) (by simp)
      rw [hF 0 (by decide)] at e0
      have e1 := HF.out.cell (hc1 k 1 hll (by decide)) (by simp)
      rw [hF 1 (by decide)] at e1
      have e2 := HF.out.cell (hc1 k 2 hll (by decide)) (by simp)
      rw [hF 2 (by decide)] at e2
      have e3 := HF.out.cell (hc1 k 3 hll (by decide)) (by simp)
      rw [hF 3 (by decide)] at e3
      have e4 := HF.out.cell (hc1 k 4 hll (by decide)) (by simp)
      rw [hF 4 (by decide)] at e4
      have e5 := HF.out.cell (hc1 k 5 hll (by decide)) (by simp)
      rw [hF 5 (by decide)] at e5
      have e6 := HF.out.cell (hc1 k 6 hll (by decide)) (by simp)
      rw [hF 6 (by decide)] at e6
      have e7 := HF.out.cell (hc1 k 7 hll (by decide)) (by simp)
      rw [hF 7 (by decide)] at e7
      have e8 := HF.out.cell (hc1 k 8 hll (by decide)) (by simp)
      rw [hF 8 (by decide)] at e8
      have e9 := HF.out.cell (hc1 k 9 hll (by decide)) (by simp)
      rw [hF 9 (by decide)] at e9
      have e10 := HF.out.cell (hc1 k 10 hll (by decide)) (by simp)
      rw [hF 10 (by decide)] at e10
      have e11 := HF.out.cell (hc1 k 11 hll (by decide)) (by simp)
      rw [hF 11 (by decide)] at e11
      have e12 := HF.out.cell (hc1 k 12 hll (by decide)) (by simp)
      rw [hF 12 (by decide)] at e12
      have e13 := HF.out.cell (hc1 k 13 hll (by decide)) (by simp)
      rw [hF 13 (by decide)] at e13
      have e14 := HF.out.cell (hc1 k 14 hll (by decide)) (by simp)
      rw [hF 14 (by decide)] at e14
      have e15 := HF.out.cell (hc1 k 15 hll (by decide)) (by simp)
      rw [hF 15 (by decide)] at e15
      have e16 := HF.out.cell (hc1 k 16 hll (by decide)) (by simp)
      rw [hF 16 (by decide)] at e16
      have e17 := HF.out.cell (hc1 k 17 hll (by decide)) (by simp)
      rw [hF 17 (by decide)] at e17
      simp only [enF, Nat.add_zero] at e0 e1 e2 e3 e4 e5 e6 e7 e8 e9 e10 e11 e12 e13 e14 e15 e16 e17
      clear hc1 hF
      unfold enV at HC
      go_wp2_with fail
      refine (HC.out wr HF.out).mono ?_
      rintro e w2 ⟨rfl, hf2⟩
      have HF2 := Lib.hid (HF.out.trans hf2 (by simp))
      clear hf2
      by_cases hq : kEq x.key key = true
      · have HE := Lib.hid (show fI key l = (k : Int) by unfold fI; rw [HIT.out hq, if_pos hll])
        rw [hq]
        clear hq
        go_wp2
        go_ret
        exact ⟨by rw [HE.out]; rfl, HF2.out⟩
      · have hq' : kEq x.key key = false := by simpa using hq
        have HNE2 := Lib.hid (show ∀ j (hj : j < l.length), j < k + 1 → kEq l[j].key key = false from fun j hj hjk => by
          by_cases e : j = k
          · subst e; rw [hx]; exact hq'
          · exact HNE.out j hj (by omega))
        rw [hq']
        clear hq hq'
        go_wp2
        go_roundw
        case rel => exact ⟨k + 1, by omega, by go_num, HNE2.out, HF2.out⟩
        case measure => simp [intOf]; omega
    · have hkn : k = l.length := by omega
      subst hkn
      have HE := Lib.hid (show fI key l = -1 by unfold fI; rw [fIx_miss (fun j hj => HNE.out j hj hj), if_neg (by omega)])
      go_wp2
      go_ret
      exact ⟨by rw [HE.out]; rfl, HF.out⟩

set_option maxHeartbeats 2000000 in
set_option maxRecDepth 100000 in
theorem find_any (w : World) (B : HB) (p : Nat) (n : Int) (v : Value) (l : List En) (key : List UInt8) (hC : Ca B w p n v l) :
    Calls Tryd.prog 32 #[.pointer (some ⟨p, 0, none⟩), .string (keyB key)] w fun e w' => e = .returned (.int .i64 (fI key l)) ∧ Fr [] w w' := by
  obtain ⟨F, hR⟩ := hC.row
  obtain ⟨a, c, rfl⟩ := hR.ho.rd.slice
  have c0 := blk_cell hC.blk 0 rfl
  have hlt := lt_of_blk hC.blk
  have HI := Lib.hid (idxEn_any (w.alloc (.cells #[.string (keyB key)] 9)) B a c l F w.heap.size key (hR.fr0 ((Fr.refl [] w).alloc _)) (blk_cell (heap_alloc_new w _) 0 rfl))
  clear hC hR
  generalize fI key l = res at *
  generalize l.length = n' at *
  generalize keyB key = y at *
  go_enter Tryd.func32, Tryd.ntmps32
  go_wp2_with fail
  refine HI.out.mono ?_
  rintro e w2 ⟨rfl, hf2⟩
  go_wp2
  go_ret
  exact ⟨rfl, ((Fr.refl [] w).alloc _).trans hf2 (by simp)⟩

end Go.Proofs.YtkdmkpdooiacaaaDoor
