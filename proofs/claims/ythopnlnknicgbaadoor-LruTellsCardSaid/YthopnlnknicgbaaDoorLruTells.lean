/- LruTells: the walk. -/
import Derived.Test.YthopnlnknicgbaaDoorRecent
import Derived.Test.YthopnlnknicgbaaDoorTouched
import Derived.Test.YthopnlnknicgbaaDoorInts
import Derived.Test.YthopnlnknicgbaaDoorDoor
import Derived.IntWalk
namespace Go.Proofs.YthopnlnknicgbaaDoor
open Go.RowKit

/-- what the reference says of a room, and of how many keys there are -/
def rft (m : Nat) (n : Int) : Int := if 1 ≤ n ∧ n ≤ 64 then (if 500 < m then 7 else 0) else 6
theorem rft_bad {m : Nat} {n : Int} (h : ¬ LruOk n) : rft m n = 6 := if_neg h
theorem rft_full {m : Nat} {n : Int} (h : LruOk n) (hm : 500 < m) : rft m n = 7 := (if_pos h).trans (if_pos hm)
theorem rft_ok {m : Nat} {n : Int} (h : LruOk n) (hm : ¬ 500 < m) : rft m n = 0 := (if_pos h).trans (if_neg hm)

set_option maxHeartbeats 1000000 in
theorem roomFault_any (w : World) (a : Option Addr) (m c : Nat) (n : Int) :
    Calls Tryd.prog 34 #[.slice a m c, .int .i64 n] w fun e w' => e = .returned (.int .i64 (rft m n)) ∧ w' = w := by
  by_cases hok : LruOk n
  · by_cases hm : 500 < m
    · have E := Lib.hid (rft_full hok hm)
      unfold LruOk at hok
      go_enter Tryd.func34, Tryd.ntmps34
      go_wp2
      go_ret
      exact ⟨by rw [E.out]; rfl, rfl⟩
    · have E := Lib.hid (rft_ok hok hm)
      unfold LruOk at hok
      go_enter Tryd.func34, Tryd.ntmps34
      go_wp2
      go_ret
      exact ⟨by rw [E.out]; rfl, rfl⟩
  · have E := Lib.hid (rft_bad (m := m) hok)
    unfold LruOk at hok
    have hc : n < 1 ∨ (1 ≤ n ∧ 64 < n) := by omega
    clear hok
    rcases hc with h1 | ⟨h1, h2⟩
    all_goals
      go_enter Tryd.func34, Tryd.ntmps34
      go_wp2
      go_ret
      exact ⟨by rw [E.out]; rfl, rfl⟩

set_option maxHeartbeats 1000000 in
theorem misses_bad (w : World) (a : Option Addr) (m c : Nat) (n : Int) (hno : ¬ LruOk n) :
    Calls Tryd.prog 37 #[.slice a m c, .int .i64 n] w fun e w' => e = .returned (.tuple #[.int .i64 0, .iface 24 (.int .i64 6)]) ∧ Fr [] w w' := by
  go_enter Tryd.func37, Tryd.ntmps37
  go_wp2_with fail
  refine (lru_new _ n).mono ?_
  rintro e w1 ⟨hf1, ⟨hyes, _⟩ | ⟨_, rfl⟩⟩
  · exact absurd hyes hno
  · have HF1 := Lib.hid hf1; clear hf1
    go_wp2
    go_ret2
    exact ⟨rfl, HF1.out⟩

set_option maxHeartbeats 1000000 in
theorem misses_full (w : World) (a : Option Addr) (m c : Nat) (n : Int) (hok : LruOk n) (hm : 500 < m) :
    Calls Tryd.prog 37 #[.slice a m c, .int .i64 n] w fun e w' => e = .returned (.tuple #[.int .i64 0, .iface 24 (.int .i64 7)]) ∧ Fr [] w w' := by
  go_enter Tryd.func37, Tryd.ntmps37
  go_wp2_with fail
  refine (lru_new _ n).mono ?_
  rintro e w1 ⟨hf1, ⟨_, p, rfl, _, _⟩ | ⟨hno, _⟩⟩
  · have HF1 := Lib.hid hf1; clear hf1
    go_wp2
    go_ret2
    exact ⟨rfl, HF1.out⟩
  · exact absurd hok hno

theorem Lru.kept {w w' : World} {p B n : Nat} {v : Value} {l : List Int} {S : List Nat} (h : Lru w p B n v l) (hf : Fr S w w') (hn : p ∉ S ∧ ∀ x ∈ v.ownBlock.toList, x ∉ S) : Lru w' p B n v l :=
  ⟨hf.blk h.blk hn.1, h.own.kept hf (fun g hg => hn.2 g (by rw [hg]; simp)), h.len⟩

theorem eqUpTo_same (f : Nat → Int) (n : Nat) : (decide (n = n) && eqUpTo f f n) = true := by simp [(eqUpTo_iff _ _ _).2]

set_option maxRecDepth 100000 in
set_option maxHeartbeats 4000000 in
theorem lruTells_any (w : World) (hg : Hand w) (a : Option Addr) (m c : Nat) (kf : Nat → Int) (hv : RdF w (.slice a m c) m (fun j => .int .i64 (kf j))) (n : Int) :
    Calls Tryd.prog 7 #[.slice a m c, .int .i64 n] w fun e w' => e = .returned (.bool true) ∧ Fr [] w w' := by
  have hcm := hv.le_cap
  unfold maxLen at hcm
  have HV := Lib.hid hv; clear hv
  have HG := Lib.hid hg; clear hg
  go_enter Tryd.func7, Tryd.ntmps7
  go_wp2_with fail
  refine (touched_any _).mono ?_
  rintro e w0 ⟨rfl, hf0⟩
  have HF0 := Lib.hid hf0; clear hf0
  go_wp2_with fail
  refine (roomFault_any _ none 0 0 n).mono ?_
  rintro e w0' ⟨rfl, rfl⟩
  by_cases hok : LruOk n
  · rw [rft_ok hok (by omega)]
    go_wp2_with fail
    refine (lru_new _ n).mono ?_
    rintro e w1 ⟨hf1, ⟨_, p, rfl, hp, hL⟩ | ⟨hno, _⟩⟩
    · have HF1 := Lib.hid (HF0.out.trans hf1 (S := []) (by simp))
      have HOK := Lib.hid hok
      unfold LruOk at hok
      obtain ⟨N, rfl⟩ : ∃ N : Nat, n = (N : Int) := ⟨n.toNat, by omega⟩
      simp only [Int.toNat_natCast] at hL
      have hN : 1 ≤ N ∧ N ≤ 64 := by omega
      have hs0 := HF0.out.size
      have hs1 := hf1.size
      have HL1 := Lib.hid (hL w.heap.size)
      clear hok hf1 hL
      go_wp2_with fail
      refine (error_any _ none 0 (HG.out.fr HF1.out (by simp))).mono ?_
      rintro e w2 ⟨rfl, hf2⟩
      rw [show decide (numOf none = 0) = true from rfl]
      have HL2 := Lib.hid (HL1.out.kept hf2 (by simp))
      have HF2 := Lib.hid (HF1.out.trans hf2 (by simp)); clear hf2 HL1
      go_wp2_with fail
      refine (roomFault_any _ a m c N).mono ?_
      rintro e w2' ⟨rfl, rfl⟩
      by_cases h500 : 500 < m
      · rw [rft_full HOK.out h500]
        go_wp2_with fail
        refine (misses_full _ a m c N HOK.out h500).mono ?_
        rintro e w3 ⟨rfl, hf3⟩
        have HF3 := Lib.hid (HF2.out.trans hf3 (by simp)); clear hf3
        go_wp2_with fail
        refine (error_any _ (some 7) 7 (HG.out.fr HF3.out (by simp))).mono ?_
        rintro e w4 ⟨rfl, hf4⟩
        rw [show decide (numOf (some 7) = 7) = true from rfl]
        have HF4 := Lib.hid (HF3.out.trans hf4 (by simp)); clear hf4
        go_wp2
        go_ret
        exact ⟨rfl, HF4.out⟩
      · rw [rft_ok HOK.out h500]
        by_cases h60 : 60 < m
        · go_wp2_with fail
          refine (lru_misses _ a m c kf (HV.out.fr HF2.out (by simp)) N hN (by omega)).mono ?_
          rintro e w3 ⟨rfl, hf3⟩
          have HF3 := Lib.hid (HF2.out.trans hf3 (by simp)); clear hf3
          go_wp2_with fail
          refine (error_any _ none 0 (HG.out.fr HF3.out (by simp))).mono ?_
          rintro e w4 ⟨rfl, hf4⟩
          rw [show decide (numOf none = 0) = true from rfl]
          have HF4 := Lib.hid (HF3.out.trans hf4 (by simp)); clear hf4
          go_wp2
          go_ret
          exact ⟨rfl, HF4.out⟩
        · have e60 : decide (60 < (m : Int)) = false := by simp; omega
          have e61 : decide ((m : Int) ≤ 60) = true := by simp; omega
          go_wp2_with fail
          refine (missed_any _ a m c kf N (HV.out.fr HF2.out (by simp)) (by omega) (by omega)).mono ?_
          rintro e w3 ⟨rfl, hf3⟩
          have HL3 := Lib.hid (HL2.out.kept hf3 (by simp))
          have HF3 := Lib.hid (HF2.out.trans hf3 (by simp)); clear hf3 HL2
          go_wp2_with fail
          refine (lru_misses _ a m c kf (HV.out.fr HF3.out (by simp)) N hN (by omega)).mono ?_
          rintro e w4 ⟨rfl, hf4⟩
          have HL4 := Lib.hid (HL3.out.kept hf4 (by simp))
          have HF4 := Lib.hid (HF3.out.trans hf4 (by simp)); clear hf4 HL3
          go_wp2_with fail
          refine (error_any _ none 0 (HG.out.fr HF4.out (by simp))).mono ?_
          rintro e w5 ⟨rfl, hf5⟩
          rw [show decide (numOf none = 0) = true from rfl]
          have HL5 := Lib.hid (HL4.out.kept hf5 (by simp))
          have HF5 := Lib.hid (HF4.out.trans hf5 (by simp)); clear hf5 HL4
          have emm : ((msc kf N m : Int) != (msc kf N m : Int)) = false := by simp
          go_wp2
          clear e60 e61 emm
          go_loopw [13] (fun i wr => ∃ (k : Nat) (v : Value), k ≤ m ∧ i = .int .i64 k ∧ Lru wr p w.heap.size N v ((rcs kf k).take N) ∧ Fr [] w wr) (fun i _ => m - (intOf i).toNat)
          case atStart => exact ⟨0, .slice none 0 0, by omega, rfl, by simpa [rcs] using HL5.out, HF5.out⟩
          case round =>
            clear HL5 HF5
            obtain ⟨k, v, hk, rfl, hL, hf⟩ := hrel
            have hsz := hf.size
            have HL := Lib.hid hL; clear hL
            have HF := Lib.hid hf; clear hf
            by_cases hlt : k < m
            · obtain ⟨b1, o1, c1, he1, hmc, _, _, hc1⟩ := HV.out.shape (by omega)
              simp only [Value.slice.injEq, true_and] at he1
              obtain ⟨rfl, rfl⟩ := he1
              have K1 := Lib.hid (hc1 k hlt)
              have hpart : ∀ wx, Fr [] w wx → RdF wx (.slice (some ⟨b1, o1, none⟩) (k + 1) c) (k + 1) (fun j => .int .i64 (kf j)) := fun wx hx => by
                exact .inr ⟨_, c, rfl, by omega, (HV.out.le_cap).2, fun j hj => by
                  have e : (⟨b1, o1, none⟩ : Addr).add j = ⟨b1, o1 + j, none⟩ := by unfold Addr.add; split <;> simp_all
                  rw [e]; exact hx.cell (hc1 j (by omega)) (by simp)⟩
              have HRE := Lib.hid (fun wx (hx : Fr [] w wx) => recent_any wx (some ⟨b1, o1, none⟩) (k + 1) c kf N (hpart wx hx) (by omega) (by omega))
              clear hc1 hpart
              have k0 : (0 : Int) ≤ (k : Int) := by omega
              have k3 : (k : Int) < (m : Int) := by omega
              have hnx := rcs_take kf N k hN.1
              have hll := HL.out.len
              generalize hl : (rcs kf k).take N = l at *
              generalize hl2 : (rcs kf (k + 1)).take N = l2 at *
              have HL2 := Lib.hid hl2
              clear hl hl2
              generalize hx : kf k = x at *
              clear hx
              have hrl := rcn_len x l
              have hlast : x ∉ l → lg (rcn x l) N = lg l (N - 1) := fun h => by
                unfold rcn lg
                rw [List.erase_of_not_mem h, show N = (N - 1) + 1 by omega]
                rfl
              have hgone : (x ∈ l → tgone x l N = 0 ∧ decide (N < (rcn x l).length) = false) ∧ (x ∉ l → l.length = N → tgone x l N = lg l (N - 1) ∧ decide (N < (rcn x l).length) = true) ∧ (x ∉ l → l.length ≠ N → tgone x l N = 0 ∧ decide (N < (rcn x l).length) = false) := by
                unfold tgone
                refine ⟨fun h => ?_, fun h h2 => ?_, fun h h2 => ?_⟩
                · rw [if_pos h] at hrl
                  rw [if_neg (by omega)]
                  exact ⟨rfl, by simp; omega⟩
                · rw [if_neg h] at hrl
                  rw [if_pos (by omega), hlast h]
                  exact ⟨rfl, by simp; omega⟩
                · rw [if_neg h] at hrl
                  rw [if_neg (by omega)]
                  exact ⟨rfl, by simp; omega⟩
              clear hrl hlast
              go_wp2_with fail
              refine (lru_keys wr HL.out (by omega)).mono ?_
              rintro e w6 ⟨v6, rfl, ho6, hf6⟩
              have HL6 := Lib.hid (HL.out.kept hf6 (by simp))
              have HF6 := Lib.hid (HF.out.trans hf6 (by simp))
              have hs6 := hf6.size
              obtain ⟨a6, c6, hv6⟩ := ho6.rd.slice
              subst hv6
              have HTO := Lib.hid (lru_touch w6 x HL6.out (by omega) (by omega))
              have hpw := lt_of_blk HL.out.blk
              have hown := HL.out.own.lt
              have hge := HL.out.own.ge
              have HRD := Lib.hid (show ∀ w7, Fr (p :: v.ownBlock.toList) w6 w7 → RdF w7 (.slice a6 l.length c6) l.length (fun j => .int .i64 (lg l j)) ∧ Fr [] w w7 from fun w7 h => by
                refine ⟨ho6.rd.fr h (fun b o c e hm => ?_), HF6.out.trans h (fun y hy => ?_)⟩
                · have := ho6.ge b (by rw [e]; simp [Value.ownBlock])
                  rcases List.mem_cons.1 hm with rfl | hm
                  · omega
                  · have := hown b hm; omega
                · rcases List.mem_cons.1 hy with rfl | hy
                  · exact .inr (by omega)
                  · exact .inr (hge y hy))
              clear ho6 hf6 hpw hown hge
              have hcap6 : l.length ≤ N := hll
              have k1 := HF6.out.cell K1.out (by simp)
              go_wp2_with fail
              refine HTO.out.mono ?_
              rintro e w7 ⟨v7, rfl, hL7, hf7, hn7⟩
              obtain ⟨hrd7, hF7⟩ := HRD.out w7 hf7
              rw [hnx] at hL7
              have hs7 := hf7.size
              have HL7 := Lib.hid hL7
              have HRD7 := Lib.hid hrd7
              have HF7 := Lib.hid hF7
              have HAM := Lib.hid (among_any w7 _ l x hrd7 (by omega))
              clear hL7 hrd7 hF7 hf7 hn7 k1
              have k2 := HF7.out.cell K1.out (by simp)
              have hcell : ∀ j, j < l.length → ∃ b o, a6 = some ⟨b, o, none⟩ ∧ w7.cell? ⟨b, o + j, none⟩ = some (.int .i64 (lg l j)) := fun j hj => by
                obtain ⟨b, o, c', he, _, _, _, hc⟩ := HRD7.out.shape (by omega)
                simp only [Value.slice.injEq, true_and] at he
                exact ⟨b, o, he.1, hc j hj⟩
              have HCE := Lib.hid hcell
              clear hcell
              generalize hG : tgone x l N = G at *
              generalize hB : decide (N < (rcn x l).length) = LB at *
              obtain ⟨bb, hbb⟩ : ∃ bb, decide (x ∈ l) = bb := ⟨_, rfl⟩
              rw [hbb] at HAM
              rw [hbb]
              have hfull : LB = (decide (l.length = N) && !bb) ∧ (LB = false → G = 0) ∧ (LB = true → G = lg l (N - 1) ∧ l.length = N) := by
                by_cases h1 : x ∈ l
                · obtain ⟨g1, g2⟩ := hgone.1 h1
                  rw [decide_eq_true h1] at hbb
                  subst hbb
                  rw [g2]
                  exact ⟨by simp, fun _ => g1, fun h => by cases h⟩
                · rw [decide_eq_false h1] at hbb
                  subst hbb
                  by_cases h2 : l.length = N
                  · obtain ⟨g1, g2⟩ := hgone.2.1 h1 h2
                    rw [g2]
                    exact ⟨by simp [h2], fun h => (by cases h), fun _ => ⟨g1, h2⟩⟩
                  · obtain ⟨g1, g2⟩ := hgone.2.2 h1 h2
                    rw [g2]
                    exact ⟨by simp [h2], fun _ => g1, fun h => by cases h⟩
              have HFU := Lib.hid hfull
              have HNX := Lib.hid hnx
              clear hfull hbb hG hB hgone hnx
              generalize hK : l.length = K at *
              clear hK
              go_upto_region 22 with fail
              go_cut [18] (fun q wx => q = .bool LB ∧ wx = w7)
              case first =>
                by_cases hKN : K = N
                · have hkn : ((K : Int) == (N : Int)) = true := by simp [hKN]
                  have e := HFU.out.1
                  rw [decide_eq_true hKN, Bool.true_and] at e
                  have E := Lib.hid e
                  clear e hKN
                  go_wp2_with fail
                  refine HAM.out.mono ?_
                  rintro e w8 ⟨rfl, rfl⟩
                  go_wp2_with fail
                  go_meet
                  exact ⟨by rw [E.out], by trivial⟩
                · have hkn : ((K : Int) == (N : Int)) = false := by simp; omega
                  have e := HFU.out.1
                  rw [decide_eq_false hKN, Bool.false_and] at e
                  have E := Lib.hid e
                  have hkn2 : ¬ (K : Int) = (N : Int) := by omega
                  clear e hKN
                  go_wp2_with fail
                  go_meet
                  exact ⟨by rw [E.out], by trivial⟩
              case rest =>
                obtain ⟨rfl, hwc⟩ := hcut
                replace hwc := hwc.symm
                subst hwc
                go_upto_region 23 with fail
                go_cut [149] (fun q wx => q = .bool false ∧ wx = w7)
                case first =>
                  have hbb2 : (bb != bb) = false := by simp
                  cases LB with
                  | true =>
                    obtain ⟨g1, g2⟩ := HFU.out.2.2 rfl
                    subst g1
                    obtain ⟨bx, ox, ha6, hce⟩ := HCE.out (N - 1) (by omega)
                    subst ha6
                    have n0 : (0 : Int) ≤ (N : Int) - 1 := by omega
                    have n1 : (N : Int) - 1 < (K : Int) := by omega
                    have n2 : ((N : Int) - 1).toNat = N - 1 := by omega
                    clear g2
                    go_wp2_with fail
                    refine HAM.out.mono ?_
                    rintro e w8 ⟨rfl, rfl⟩
                    go_wp2_with fail
                    go_meet
                    exact ⟨rfl, by trivial⟩
                  | false =>
                    obtain rfl := HFU.out.2.1 rfl
                    go_wp2_with fail
                    refine HAM.out.mono ?_
                    rintro e w8 ⟨rfl, rfl⟩
                    go_wp2_with fail
                    go_meet
                    exact ⟨rfl, by trivial⟩
                case rest =>
                  obtain ⟨rfl, hwc⟩ := hcut
                  replace hwc := hwc.symm
                  subst hwc
                  clear k2
                  have hl2len : l2.length ≤ N := HL7.out.len
                  have HKE := Lib.hid (fun wx (hx : Fr [] w7 wx) => lru_keys wx (HL7.out.kept hx (by simp)) (by omega))
                  have HRE7 := Lib.hid (fun wx (hx : Fr [] w7 wx) => HRE.out wx (HF7.out.trans hx (by simp)))
                  have FR0 := Lib.hid ((Fr.refl [] w7).drew)
                  have q0 : (0 : Int) ≤ (k : Int) + 1 := by omega
                  have q1 : (k : Int) + 1 ≤ (c : Int) := by omega
                  have q2 : ((k : Int) + 1).toNat = k + 1 := by omega
                  have q3 : IntKind.i64.wrap ((k : Int) + 1) = (k : Int) + 1 := IntWalk.i64_in _ (by omega)
                  go_wp2_with fail
                  go_upto_region 25 with fail
                  go_cut [19] (fun q wx => q = .bool true ∧ Fr [] w7 wx)
                  case first =>
                    generalize hP : l2.length = P at *
                    clear hP
                    go_region_held3 (fun _ => True)
                      (trivial)
                      (first
                        | (go_at_call 38; refine (HKE.out _ ?_).mono ?_; (first | exact FR0.out | exact FR0.out.trans hfR (by simp)); rintro e wk ⟨vk, rfl, hok, hfK⟩; obtain ⟨ak, ck, hak⟩ := hok.rd.slice; subst hak)
                        | (go_at_call 41; refine (HRE7.out _ ?_).mono ?_; (first | exact FR0.out | exact FR0.out.trans hfK (by simp)); rintro e wr2 ⟨vr, rfl, hor, hfR⟩; obtain ⟨ar, cr, har⟩ := hor.rd.slice; subst har)
                        | (go_at_call 15; refine (ints_any _ _ _ P P _ _ (lg l2) (lg l2) ?_ ?_ ?_ ?_).mono ?_; (first | exact hok.rd | exact hok.rd.fr hfR (by simp)); (first | exact hor.rd | exact hor.rd.fr hfK (by simp)); omega; omega; rintro e wi ⟨rfl, qi, rfl⟩; rw [eqUpTo_same]))
                    all_goals (go_wp2_with fail; go_meet)
                    all_goals first
                      | exact ⟨rfl, ((FR0.out.trans hfK (by simp)).trans hfR (by simp)).drewN _⟩
                      | exact ⟨rfl, ((FR0.out.trans hfR (by simp)).trans hfK (by simp)).drewN _⟩
                  case rest =>
                    obtain ⟨rfl, hf9⟩ := hcut
                    have hL9 := HL7.out.kept hf9 (by simp)
                    rw [← HL2.out] at hL9
                    have HL9 := Lib.hid hL9
                    have HF9 := Lib.hid (HF7.out.trans hf9 (by simp))
                    clear hf9 hL9 q0 q1 q2 q3
                    go_wp2
                    go_roundw
                    case rel => exact ⟨k + 1, v7, by omega, by go_num, HL9.out, HF9.out⟩
                    case measure => simp [intOf]; omega
            · obtain rfl : k = m := by omega
              go_wp2
              go_ret
              exact ⟨rfl, HF.out⟩
    · exact absurd hok hno
  · rw [rft_bad hok]
    go_wp2_with fail
    refine (lru_new _ n).mono ?_
    rintro e w1 ⟨hf1, ⟨hyes, _⟩ | ⟨_, rfl⟩⟩
    · exact absurd hyes hok
    · have HF1 := Lib.hid (HF0.out.trans hf1 (S := []) (by simp)); clear hf1
      go_wp2_with fail
      refine (error_any _ (some 6) 6 (HG.out.fr HF1.out (by simp))).mono ?_
      rintro e w2 ⟨rfl, hf2⟩
      rw [show decide (numOf (some 6) = 6) = true from rfl]
      have HF2 := Lib.hid (HF1.out.trans hf2 (by simp)); clear hf2
      go_wp2_with fail
      refine (roomFault_any _ a m c n).mono ?_
      rintro e w2' ⟨rfl, rfl⟩
      rw [rft_bad hok]
      go_wp2_with fail
      refine (misses_bad _ a m c n hok).mono ?_
      rintro e w3 ⟨rfl, hf3⟩
      have HF3 := Lib.hid (HF2.out.trans hf3 (by simp)); clear hf3
      go_wp2_with fail
      refine (error_any _ (some 6) 6 (HG.out.fr HF3.out (by simp))).mono ?_
      rintro e w4 ⟨rfl, hf4⟩
      rw [show decide (numOf (some 6) = 6) = true from rfl]
      have HF4 := Lib.hid (HF3.out.trans hf4 (by simp)); clear hf4
      by_cases h60 : 60 < m
      · have e60 : ¬ (m : Int) ≤ 60 := by omega
        go_wp2
        go_ret
        exact ⟨rfl, HF4.out⟩
      · have e60 : (m : Int) ≤ 60 := by omega
        go_wp2
        go_ret
        exact ⟨rfl, HF4.out⟩

end Go.Proofs.YthopnlnknicgbaaDoor
