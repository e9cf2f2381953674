/- Planned of the reference: the walk. -/
import Derived.Test.YthopnlnknicgbaaDoorPlanned
namespace Go.Proofs.YthopnlnknicgbaaDoor
open Go.RowKit

theorem PG.fresh {w w' : World} {B : Nat} {v u v' : Value} {l g l' : List Int} (h : PG w B v u l g) (hB : B ≤ w.heap.size) (hf : Fr [] w w') (ho : OwnF w' w.heap.size 3 v' l'.length (fun j => .int .i64 (lg l' j))) : PG w' B v' u l' g :=
  ⟨ho.mono hB, h.two.kept hf (by simp), fun x hx hm => by
    have h1 := ho.ge x hx
    have h2 := h.two.lt x hm
    omega⟩

set_option maxRecDepth 100000 in
set_option maxHeartbeats 4000000 in
theorem plannedR_any (w : World) (a : Option Addr) (m c : Nat) (kf : Nat → Int) (n : Nat) (hv : RdF w (.slice a m c) m (fun j => .int .i64 (kf j))) (hn : 1 ≤ n ∧ n ≤ 1000) (hm : m ≤ 1000) :
    Calls Tryd.prog 43 #[.slice a m c, .int .i64 n] w fun e w' => ∃ u, e = .returned (.tuple #[.int .i64 (pmi kf m n m), u]) ∧ OwnF w' w.heap.size 3 u (pgo kf m n m).length (fun j => .int .i64 (lg (pgo kf m n m) j)) ∧ Fr [] w w' := by
  have HV := Lib.hid hv; clear hv
  go_enter Tryd.func43, Tryd.ntmps43
  go_wp2
  go_loopw [6, 7, 8, 9] (fun v u ct i wr => ∃ (k : Nat) (T : List Int), k ≤ m ∧ i = .int .i64 k ∧ ct = .int .i64 (pmi kf m n k) ∧ Hid (PR kf m n k T) ∧ PG wr w.heap.size v u T (pgo kf m n k) ∧ Fr [] w wr) (fun _ _ _ i _ => m - (intOf i).toNat)
  case atStart => exact ⟨0, [], by omega, rfl, rfl, Lib.hid ⟨List.nodup_nil, fun z => Iff.rfl⟩, ⟨OwnF.nil _ _ _ _, OwnF.nil _ _ _ _, fun x hx => by simp [Value.ownBlock] at hx⟩, Fr.refl _ _⟩
  case round =>
    obtain ⟨k, T, hk, rfl, rfl, HPR, hP, hf⟩ := hrel
    have hsz := hf.size
    have HP := Lib.hid hP
    have HF := Lib.hid hf; clear hf
    by_cases hlt : k < m
    · obtain ⟨b1, o1, c1, he1, hmc, _, _, hc1⟩ := HV.out.shape (by omega)
      simp only [Value.slice.injEq, true_and] at he1
      obtain ⟨rfl, rfl⟩ := he1
      have K1 := Lib.hid (hc1 k hlt)
      have k1 := HF.out.cell K1.out (by simp)
      clear hc1
      have k0 : (0 : Int) ≤ (k : Int) := by omega
      have k3 : (k : Int) < (m : Int) := by omega
      obtain ⟨av, cv, hav⟩ := hP.one.rd.slice
      subst hav
      have hTl := pr_len (by omega) HPR.out
      have hll := pl_len kf m n k
      have hgl := pgo_len kf m n k
      have hmi := pmi_le kf m n k
      have HAM := Lib.hid (among_any wr _ T (kf k) hP.one.rd (by omega))
      have hTn : T.length ≤ n := by omega
      clear hP hTl
      by_cases hmem : kf k ∈ T
      · obtain ⟨r1, r2, r3⟩ := pr_hit HPR.out hmem
        have HD := Lib.hid (decide_eq_true hmem)
        have R1 := Lib.hid r1; have R2 := Lib.hid r2; have R3 := Lib.hid r3
        clear r1 r2 r3 hmem
        go_wp2_with fail
        refine HAM.out.mono ?_
        rintro e w2 ⟨rfl, rfl⟩
        rw [HD.out]
        go_wp2
        go_roundw
        case rel => exact ⟨k + 1, T, by omega, by go_num, by rw [R3.out], R1, by rw [R2.out]; exact HP.out, HF.out⟩
        case measure => simp [intOf]; omega
      · have HD := Lib.hid (decide_eq_false hmem)
        by_cases hfull : T.length = n
        · obtain ⟨r1, r2, r3⟩ := pr_full (by omega) HPR.out hmem hfull
          have R1 := Lib.hid r1; have R2 := Lib.hid r2; have R3 := Lib.hid r3
          have hfb : (((T.length : Nat) : Int) == (n : Int)) = true := by simp [hfull]
          have hpos : 0 < T.length := by omega
          have HPO := Lib.hid hpos
          clear r1 r2 r3 hmem
          obtain ⟨g, cap, hg1, hg2, hg3⟩ := HP.out.one.row hpos
          simp only [Value.slice.injEq, true_and] at hg1
          obtain ⟨rfl, rfl⟩ := hg1
          have HCE := Lib.hid (fun j hj => hg3.cell j hj)
          have y0 : wr.cell? ⟨g, 0, none⟩ = some (.int .i64 (lg T 0)) := hg3.cell 0 hpos
          obtain ⟨ag, hag⟩ : ∃ ag : Int → Nat, ∀ x, k + 1 + agn kf m k x = ag x := ⟨_, fun _ => rfl⟩
          have HNX := Lib.hid (show ∀ x, Calls Tryd.prog 57 #[.slice (some ⟨b1, o1, none⟩) m c, .int .i64 k, .int .i64 x] wr (fun e w' => e = .returned (.int .i64 (ag x)) ∧ w' = wr) from fun x => by
            rw [← hag]
            exact next_any wr _ m c kf (HV.out.fr HF.out (by simp)) k hlt hm x)
          have HWS := Lib.hid (show ∀ j, ((ag (rwv kf m k T j) < ag (lg T j) ∨ (ag (lg T j) = ag (rwv kf m k T j) ∧ lg T j < rwv kf m k T j)) → rwv kf m k T (j + 1) = lg T j) ∧
              (¬ (ag (rwv kf m k T j) < ag (lg T j) ∨ (ag (lg T j) = ag (rwv kf m k T j) ∧ lg T j < rwv kf m k T j)) → rwv kf m k T (j + 1) = rwv kf m k T j) from fun j => by
            have e : rwv kf m k T (j + 1) = if bet kf m k (lg T j) (rwv kf m k T j) then lg T j else rwv kf m k T j := rfl
            rw [e, ← hag, ← hag]
            refine ⟨fun h => if_pos ?_, fun h => if_neg ?_⟩
            · unfold bet; omega
            · unfold bet; omega)
          have HFUL := Lib.hid hfull
          clear hg3 hag hpos hfull
          generalize hKK : T.length = K at *
          have HKK := Lib.hid hKK
          clear hKK
          go_wp2_with fail
          refine HAM.out.mono ?_
          rintro e w2 ⟨rfl, hw2⟩
          replace hw2 := hw2.symm
          subst hw2
          rw [HD.out]
          have hK0 := HPO.out
          go_wp2
          clear k1 y0
          go_loopw [10, 11] (fun ws i wx => ∃ j : Nat, j ≤ K ∧ i = .int .i64 j ∧ ws = .int .i64 (rwv kf m k T j) ∧ wx = wr) (fun _ i _ => K - (intOf i).toNat)
          case atStart => exact ⟨0, by omega, rfl, rfl, rfl⟩
          case round =>
            obtain ⟨j, hj, rfl, rfl, hwx⟩ := hrel
            replace hwx := hwx.symm
            subst hwx
            by_cases hjK : j < K
            · have t1 := HCE.out j hjK
              obtain ⟨hw1, hw0⟩ := HWS.out j
              have j0 : (0 : Int) ≤ (j : Int) := by omega
              have j3 : (j : Int) < (K : Int) := by omega
              generalize rwv kf m k T j = xw at *
              generalize lg T j = xj at *
              have hcase : (ag xw < ag xj) ∨ (ag xj = ag xw ∧ xj < xw) ∨ (ag xj = ag xw ∧ ¬ xj < xw) ∨ (ag xj < ag xw) := by omega
              rcases hcase with h1 | ⟨h2, h1⟩ | ⟨h2, h1⟩ | h1
              · have p1 : (ag xw : Int) < (ag xj : Int) := by omega
                have HWN := Lib.hid (hw1 (.inl h1)); clear hw1 hw0 h1
                go_wp2_with fail
                refine (HNX.out _).mono ?_
                rintro e w3 ⟨rfl, hw3⟩
                replace hw3 := hw3.symm
                subst hw3
                go_wp2_with fail
                refine (HNX.out _).mono ?_
                rintro e w3 ⟨rfl, hw3⟩
                replace hw3 := hw3.symm
                subst hw3
                go_wp2
                go_roundw
                case rel => exact ⟨j + 1, by omega, by go_num, by rw [HWN.out], by trivial⟩
                case measure => simp [intOf]; omega
              · have p1 : ((ag xj : Int) == (ag xw : Int)) = true := by simp [h2]
                have p2 : ¬ (ag xw : Int) < (ag xj : Int) := by omega
                have HWN := Lib.hid (hw1 (.inr ⟨h2, h1⟩)); clear hw1 hw0 h2
                go_wp2_with fail
                refine (HNX.out _).mono ?_
                rintro e w3 ⟨rfl, hw3⟩
                replace hw3 := hw3.symm
                subst hw3
                go_wp2_with fail
                refine (HNX.out _).mono ?_
                rintro e w3 ⟨rfl, hw3⟩
                replace hw3 := hw3.symm
                subst hw3
                go_wp2
                go_roundw
                case rel => exact ⟨j + 1, by omega, by go_num, by rw [HWN.out], by trivial⟩
                case measure => simp [intOf]; omega
              · have p1 : ((ag xj : Int) == (ag xw : Int)) = true := by simp [h2]
                have p2 : ¬ (ag xw : Int) < (ag xj : Int) := by omega
                have HWN := Lib.hid (hw0 (by omega)); clear hw1 hw0 h2
                go_wp2_with fail
                refine (HNX.out _).mono ?_
                rintro e w3 ⟨rfl, hw3⟩
                replace hw3 := hw3.symm
                subst hw3
                go_wp2_with fail
                refine (HNX.out _).mono ?_
                rintro e w3 ⟨rfl, hw3⟩
                replace hw3 := hw3.symm
                subst hw3
                go_wp2
                go_roundw
                case rel => exact ⟨j + 1, by omega, by go_num, by rw [HWN.out], by trivial⟩
                case measure => simp [intOf]; omega
              · have p1 : ¬ (ag xw : Int) < (ag xj : Int) := by omega
                have p2 : ((ag xj : Int) == (ag xw : Int)) = false := by simp; omega
                have p3 : ¬ (ag xj : Int) = (ag xw : Int) := by omega
                have HWN := Lib.hid (hw0 (by omega)); clear hw1 hw0 h1
                go_wp2_with fail
                refine (HNX.out _).mono ?_
                rintro e w3 ⟨rfl, hw3⟩
                replace hw3 := hw3.symm
                subst hw3
                go_wp2_with fail
                refine (HNX.out _).mono ?_
                rintro e w3 ⟨rfl, hw3⟩
                replace hw3 := hw3.symm
                subst hw3
                go_wp2
                go_roundw
                case rel => exact ⟨j + 1, by omega, by go_num, by rw [HWN.out], by trivial⟩
                case measure => simp [intOf]; omega
            · obtain rfl : j = K := by omega
              generalize rwv kf m k T j = y at *
              have hml : (pgo kf m n k).length + 1 ≤ maxLen := by unfold maxLen; omega
              go_wp2_with (at_builtin; refine wpList_app rfl (.tmp 72) (.tmp 74) 22 rfl 3 infoInt Tryd.underlying22 rfl (HP.out.two.alloc _) rfl (rd_one _ _ _ (by simp)) rfl (fun _ _ => rfl) hml (by omega) (by simp; omega) ?_; intro v4 w4 ho4 hf4 hn4; have HP4 := Lib.hid (HP.out.second ho4 hf4 hn4); have HF4 := Lib.hid ((HF.out.alloc _).trans hf4 (fun x hx => .inr (HP.out.two.ge x hx))); clear ho4 hf4 hn4)
              have hwl := wout_len y T
              rw [HKK.out] at hwl
              refine (without_any w4 _ T y HP4.out.one.rd (by rw [HKK.out]; omega)).mono ?_
              rintro e w5 ⟨v5, rfl, ho5, hf5⟩
              have HP5 := Lib.hid (HP4.out.fresh HF4.out.size hf5 ho5)
              have HF5 := Lib.hid (HF4.out.trans hf5 (by simp))
              have hs5 := HF5.out.size
              have k2 := HF5.out.cell K1.out (by simp)
              clear ho5 hf5
              generalize wout y T = T5 at *
              have hml5 : T5.length + 1 ≤ maxLen := by unfold maxLen; omega
              go_wp2_with (at_builtin; refine wpList_app rfl (.tmp 79) (.tmp 84) 22 rfl 3 infoInt Tryd.underlying22 rfl (HP5.out.one.alloc _) rfl (rd_one _ _ _ (by simp)) rfl (fun _ _ => rfl) hml5 (by omega) (by simp; omega) ?_; intro v6 w6 ho6 hf6 hn6; have HP6 := Lib.hid (HP5.out.first ho6 hf6 hn6); have HF6 := Lib.hid ((HF5.out.alloc _).trans hf6 (fun x hx => .inr (HP5.out.one.ge x hx))); clear ho6 hf6 hn6)
              go_roundw
              case rel => exact ⟨k + 1, _, by omega, by go_num, by rw [R3.out]; go_num, R1, by rw [R2.out]; exact HP6.out, HF6.out⟩
              case measure => simp [intOf]; omega
        · obtain ⟨r1, r2, r3⟩ := pr_room (by omega) HPR.out hmem hfull
          have R1 := Lib.hid r1; have R2 := Lib.hid r2; have R3 := Lib.hid r3
          have hfb : (((T.length : Nat) : Int) == (n : Int)) = false := by simp; omega
          have hfb2 : ¬ ((T.length : Nat) : Int) = (n : Int) := by omega
          have hml : T.length + 1 ≤ maxLen := by unfold maxLen; omega
          clear r1 r2 r3 hmem hfull
          go_wp2_with fail
          refine HAM.out.mono ?_
          rintro e w2 ⟨rfl, rfl⟩
          rw [HD.out]
          go_wp2_with (at_builtin; refine wpList_app rfl (.tmp 79) (.tmp 84) 22 rfl 3 infoInt Tryd.underlying22 rfl (HP.out.one.alloc _) rfl (rd_one _ _ _ (by simp)) rfl (fun _ _ => rfl) hml (by omega) (by simp; omega) ?_; intro v4 w4 ho4 hf4 hn4; have HP4 := Lib.hid (HP.out.first ho4 hf4 hn4); have HF4 := Lib.hid ((HF.out.alloc _).trans hf4 (fun x hx => .inr (HP.out.one.ge x hx))); clear ho4 hf4 hn4)
          go_roundw
          case rel => exact ⟨k + 1, _, by omega, by go_num, by rw [R3.out]; go_num, R1, by rw [R2.out]; exact HP4.out, HF4.out⟩
          case measure => simp [intOf]; omega
    · obtain rfl : k = m := by omega
      obtain ⟨au, cu, hau⟩ := hP.two.rd.slice
      subst hau
      clear hP
      go_wp2
      go_ret2
      exact ⟨_, rfl, HP.out.two, HF.out⟩

end Go.Proofs.YthopnlnknicgbaaDoor
