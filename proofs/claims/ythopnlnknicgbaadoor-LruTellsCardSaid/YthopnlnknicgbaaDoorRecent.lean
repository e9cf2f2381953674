/- Among, Recent, Missed, RoomFault of the reference: what each does. -/
import Derived.Test.YthopnlnknicgbaaDoorLru
import Derived.Test.YthopnlnknicgbaaDoorRecentLaw
namespace Go.Proofs.YthopnlnknicgbaaDoor
open Go.RowKit

set_option maxHeartbeats 1000000 in
theorem among_any (w : World) (v : Value) (l : List Int) (x : Int) (hv : RdF w v l.length (fun j => .int .i64 (lg l j))) (hn : l.length ≤ 1000000) :
    Calls Tryd.prog 40 #[.int .i64 x, v] w fun e w' => e = .returned (.bool (decide (x ∈ l))) ∧ w' = w := by
  obtain ⟨a, c, rfl⟩ := hv.slice
  have HV := Lib.hid hv; clear hv
  have HL := Lib.hid (show ∀ k, k < l.length → lg l k = x → decide (x ∈ l) = true from fun k hk e => by
    rw [decide_eq_true_eq, ← e, lg_lt hk]
    exact List.getElem_mem hk)
  have HN := Lib.hid (show (∀ k, k < l.length → lg l k ≠ x) → decide (x ∈ l) = false from fun h => by
    rw [decide_eq_false_iff_not]
    intro hm
    obtain ⟨k, hk, e⟩ := List.getElem_of_mem hm
    exact h k hk (by rw [lg_lt hk]; exact e))
  generalize hm : l.length = m at *
  have HM := Lib.hid hm; clear hm
  go_enter Tryd.func40, Tryd.ntmps40
  go_wp2
  go_loopw [5] (fun i wr => ∃ k : Nat, k ≤ m ∧ i = .int .i64 k ∧ Hid (∀ j, j < k → lg l j ≠ x) ∧ wr = w) (fun i _ => m - (intOf i).toNat)
  case atStart => exact ⟨0, Nat.zero_le _, rfl, Lib.hid (fun j hj => absurd hj (Nat.not_lt_zero _)), rfl⟩
  case round =>
    obtain ⟨k, hk, rfl, HNE, hwr⟩ := hrel
    replace hwr := hwr.symm
    subst hwr
    by_cases hlt : k < m
    · obtain ⟨b, o, c', he, _, _, _, hc⟩ := HV.out.shape (by omega)
      simp only [Value.slice.injEq, true_and] at he
      obtain ⟨rfl, rfl⟩ := he
      have k1 := hc k hlt
      clear hc
      have k0 : (0 : Int) ≤ (k : Int) := by omega
      have k3 : (k : Int) < (m : Int) := by omega
      by_cases hx : lg l k = x
      · have HH := Lib.hid (HL.out k hlt hx)
        rw [hx] at k1
        clear hx
        go_wp2
        go_ret
        exact ⟨by rw [HH.out]; rfl, rfl⟩
      · have hb : (lg l k == x) = false := by simpa using hx
        have HNE2 := Lib.hid (show ∀ j, j < k + 1 → lg l j ≠ x from fun j hj => by
          by_cases hjk : j = k
          · subst hjk; exact hx
          · exact HNE.out j (by omega))
        go_wp2
        go_roundw
        case rel => exact ⟨k + 1, by omega, by go_num, HNE2, by trivial⟩
        case measure => simp [intOf]; omega
    · obtain rfl : k = m := by omega
      have HH := Lib.hid (HN.out HNE.out)
      go_wp2
      go_ret
      exact ⟨by rw [HH.out]; rfl, rfl⟩

theorem lg_snoc (L : List Int) (x : Int) (j : Nat) (hj : j < L.length + 1) : (if j < L.length then lg L j else x) = lg (L ++ [x]) j := by
  unfold lg
  rw [List.getD_eq_getElem?_getD, List.getD_eq_getElem?_getD]
  by_cases h : j < L.length
  · rw [if_pos h, List.getElem?_append_left h]
  · have e : j = L.length := by omega
    subst e
    rw [if_neg h, List.getElem?_append_right (Nat.le_refl _)]
    simp

set_option maxRecDepth 100000 in
set_option maxHeartbeats 2000000 in
theorem recent_any (w : World) (a : Option Addr) (m c : Nat) (kf : Nat → Int) (n : Nat) (hv : RdF w (.slice a m c) m (fun j => .int .i64 (kf j))) (hn : n ≤ 1000) (hm : m ≤ 1000000) :
    Calls Tryd.prog 41 #[.slice a m c, .int .i64 n] w fun e w' => ∃ v, e = .returned v ∧ OwnF w' w.heap.size 3 v ((rcs kf m).take n).length (fun j => .int .i64 (lg ((rcs kf m).take n) j)) ∧ Fr [] w w' := by
  have HV := Lib.hid hv; clear hv
  rw [← rec_told kf n m]
  go_enter Tryd.func41, Tryd.ntmps41
  go_wp2
  go_loopw [5, 6] (fun v i wr => ∃ (t : Nat) (z : Int), t ≤ m ∧ i = .int .i64 z ∧ z = (m : Int) - 1 - t ∧ OwnF wr w.heap.size 3 v (rec kf n m t).length (fun j => .int .i64 (lg (rec kf n m t) j)) ∧ Fr [] w wr) (fun _ i _ => (intOf i + 1).toNat)
  case atStart => exact ⟨0, _, by omega, rfl, by omega, OwnF.nil _ _ _ _, Fr.refl _ _⟩
  case round =>
    obtain ⟨t, z, ht, rfl, hz, ho, hf⟩ := hrel
    have hsz := hf.size
    have HF := Lib.hid hf; clear hf
    by_cases hlt : t < m
    · obtain ⟨b1, o1, c1, he1, _, _, _, hc1⟩ := HV.out.shape (by omega)
      simp only [Value.slice.injEq, true_and] at he1
      obtain ⟨rfl, rfl⟩ := he1
      obtain ⟨q, rfl⟩ : ∃ q : Nat, z = (q : Int) := ⟨z.toNat, by omega⟩
      have hq : q = m - 1 - t := by omega
      have k1 := HF.out.cell (hc1 q (by omega)) (by simp)
      clear hc1
      have hrl := rec_len kf n m t
      have hrs := rec_succ kf n m t
      rw [← hq] at hrs
      have HAM := Lib.hid (among_any wr _ (rec kf n m t) (kf q) ho.rd (by omega))
      obtain ⟨av, cv, hav⟩ := ho.rd.slice
      subst hav
      generalize hL : rec kf n m t = L at *
      have hll := hrl.1
      generalize hK : L.length = K at *
      have HK := Lib.hid hK
      have k0 : (0 : Int) ≤ (q : Int) := by omega
      have k3 : (q : Int) < (m : Int) := by omega
      have HO := Lib.hid ho; clear ho
      have HZ := Lib.hid hz
      have hqm : q < m := by omega
      clear hq hz
      by_cases hmem : kf q ∈ L
      · have e1 : rec kf n m (t + 1) = L := by rw [hrs]; unfold rstep; rw [if_neg (fun h => h.1 hmem)]
        have HD := Lib.hid (decide_eq_true hmem)
        have E1 := Lib.hid e1
        clear hL hK hrs hmem e1
        go_wp2_with fail
        refine HAM.out.mono ?_
        rintro e w2 ⟨rfl, rfl⟩
        rw [HD.out]
        go_wp2
        go_roundw
        case rel => exact ⟨t + 1, _, by omega, rfl, by have := HZ.out; omega, by rw [E1.out, HK.out]; exact HO.out, HF.out⟩
        case measure => first | (simp [intOf]; done) | (simp [intOf]; omega)
      · have HD := Lib.hid (decide_eq_false hmem)
        by_cases hfull : K < n
        · have e1 : rec kf n m (t + 1) = L ++ [kf q] := by rw [hrs]; unfold rstep; rw [if_pos ⟨hmem, by omega⟩]
          have E1 := Lib.hid e1
          clear hL hK hrs hmem e1
          have p1 : (K : Int) < (n : Int) := by omega
          have hml : K + 1 ≤ maxLen := by unfold maxLen; omega
          go_wp2_with fail
          refine HAM.out.mono ?_
          rintro e w2 ⟨rfl, rfl⟩
          rw [HD.out]
          go_wp2_with (at_builtin; refine wpList_app rfl (.tmp 27) (.tmp 32) 22 rfl 3 infoInt Tryd.underlying22 rfl (HO.out.alloc _) rfl (rd_one _ _ _ (by simp)) rfl (fun _ _ => rfl) hml (by omega) (by simp; omega) ?_; intro v4 w4 ho4 hf4 hn4; have HO4 := Lib.hid ho4; have HF4 := Lib.hid ((HF.out.alloc _).trans hf4 (fun x hx => .inr (HO.out.ge x hx))); clear ho4 hf4 hn4)
          go_roundw
          case rel =>
            refine ⟨t + 1, _, by omega, rfl, by have := HZ.out; omega, ?_, HF4.out⟩
            rw [E1.out, List.length_append, HK.out]
            refine HO4.out.congr (fun j hj => ?_)
            have e := lg_snoc L (kf q) j (by rw [HK.out]; exact hj)
            rw [HK.out] at e
            rw [← e]
            unfold app
            by_cases hjk : j < K
            · rw [if_pos hjk, if_pos hjk]
            · rw [if_neg hjk, if_neg hjk]
          case measure => first | (simp [intOf]; done) | (simp [intOf]; omega)
        · have e1 : rec kf n m (t + 1) = L := by rw [hrs]; unfold rstep; rw [if_neg (fun h => hfull (by omega))]
          have E1 := Lib.hid e1
          clear hL hK hrs hmem e1
          have p1 : ¬ (K : Int) < (n : Int) := by omega
          go_wp2_with fail
          refine HAM.out.mono ?_
          rintro e w2 ⟨rfl, rfl⟩
          rw [HD.out]
          go_wp2
          go_roundw
          case rel => exact ⟨t + 1, _, by omega, rfl, by have := HZ.out; omega, by rw [E1.out, HK.out]; exact HO.out, HF.out⟩
          case measure => first | (simp [intOf]; done) | (simp [intOf]; omega)
    · obtain rfl : t = m := by omega
      have HO := Lib.hid ho; clear ho
      go_wp2
      go_ret
      exact ⟨_, rfl, HO.out, HF.out⟩

set_option maxRecDepth 100000 in
set_option maxHeartbeats 2000000 in
theorem missed_any (w : World) (a : Option Addr) (m c : Nat) (kf : Nat → Int) (n : Nat) (hv : RdF w (.slice a m c) m (fun j => .int .i64 (kf j))) (hn : n ≤ 1000) (hm : m ≤ 1000) :
    Calls Tryd.prog 36 #[.slice a m c, .int .i64 n] w fun e w' => e = .returned (.int .i64 (msc kf n m)) ∧ Fr [] w w' := by
  have HV := Lib.hid hv; clear hv
  go_enter Tryd.func36, Tryd.ntmps36
  go_wp2
  go_loopw [5, 6] (fun s i wr => ∃ k : Nat, k ≤ m ∧ i = .int .i64 k ∧ s = .int .i64 (msc kf n k) ∧ Fr [] w wr) (fun _ i _ => m - (intOf i).toNat)
  case atStart => exact ⟨0, by omega, rfl, rfl, Fr.refl _ _⟩
  case round =>
    obtain ⟨k, hk, rfl, rfl, hf⟩ := hrel
    have HF := Lib.hid hf; clear hf
    by_cases hlt : k < m
    · obtain ⟨b1, o1, c1, he1, hmc, _, _, hc1⟩ := HV.out.shape (by omega)
      simp only [Value.slice.injEq, true_and] at he1
      obtain ⟨rfl, rfl⟩ := he1
      have k1 := HF.out.cell (hc1 k hlt) (by simp)
      have hpart : ∀ wx, Fr [] w wx → RdF wx (.slice (some ⟨b1, o1, none⟩) k c) k (fun j => .int .i64 (kf j)) := fun wx hx => by
        exact .inr ⟨_, c, rfl, by omega, (HV.out.le_cap).2, fun j hj => by
          have e : (⟨b1, o1, none⟩ : Addr).add j = ⟨b1, o1 + j, none⟩ := by unfold Addr.add; split <;> simp_all
          rw [e]; exact hx.cell (hc1 j (by omega)) (by simp)⟩
      have HRE := Lib.hid (fun wx (hx : Fr [] w wx) => recent_any wx (some ⟨b1, o1, none⟩) k c kf n (hpart wx hx) hn (by omega))
      have HPL := Lib.hid (HF.out.drew)
      have HK1 := Lib.hid (((Fr.refl [] wr).drew).cell k1 (by simp))
      have htl : ((rcs kf k).take n).length ≤ 1000000 := by have := List.length_take_le n (rcs kf k); omega
      clear hc1 hpart
      have k0 : (0 : Int) ≤ (k : Int) := by omega
      have k3 : (k : Int) < (m : Int) := by omega
      have k4 : (k : Int) ≤ (c : Int) := by omega
      have hle := msc_le kf n k
      have hms : msc kf n (k + 1) = msc kf n k + if kf k ∈ (rcs kf k).take n then 0 else 1 := rfl
      have HMS := Lib.hid hms
      clear hms
      go_upto_region 5 with fail
      go_cut [23] (fun v wx => v = .bool (decide (¬ kf k ∈ (rcs kf k).take n)) ∧ Fr [] w wx)
      case first =>
        go_region_held3 (fun w' => w'.cell? ⟨b1, o1 + k, none⟩ = some (.int .i64 (kf k)))
          (first | exact k5 | go_keep)
          (first
            | (go_at_call 41; refine (HRE.out _ HPL.out).mono ?_; rintro e w5 ⟨v5, rfl, ho5, hf5⟩; have k5 := hf5.cell HK1.out (by simp))
            | (go_at_call 40; refine (among_any _ _ _ _ ho5.rd htl).mono ?_; rintro e w6 ⟨rfl, rfl⟩))
        go_wp2_with fail
        go_meet
        refine ⟨by simp, HPL.out.trans hf5 (by simp)⟩
      case rest =>
        obtain ⟨rfl, hf2⟩ := hcut
        have HF2 := Lib.hid hf2
        clear k1 hf2
        by_cases hmem : kf k ∈ (rcs kf k).take n
        · have hms := HMS.out
          rw [if_pos hmem] at hms
          have HM2 := Lib.hid hms
          rw [decide_eq_false (fun h => h hmem)]
          clear hmem hms
          go_wp2
          go_roundw
          case rel => exact ⟨k + 1, by omega, by go_num, by rw [HM2.out]; rfl, HF2.out⟩
          case measure => simp [intOf]; omega
        · have hms := HMS.out
          rw [if_neg hmem] at hms
          have HM2 := Lib.hid hms
          rw [decide_eq_true hmem]
          clear hmem hms
          go_wp2
          go_roundw
          case rel => exact ⟨k + 1, by omega, by go_num, by rw [HM2.out]; go_num, HF2.out⟩
          case measure => simp [intOf]; omega
    · obtain rfl : k = m := by omega
      go_wp2
      go_ret
      exact ⟨rfl, HF.out⟩

end Go.Proofs.YthopnlnknicgbaaDoor
