/- best: again, plan, Misses: what each does. -/
import Derived.Test.YthopnlnknicgbaaDoorPlanLaw
import Derived.Test.YthopnlnknicgbaaDoorIdxList
import Derived.Test.YthopnlnknicgbaaDoorInfo
import Derived.BigQuiet
namespace Go.Proofs.YthopnlnknicgbaaDoor
open Go.RowKit

set_option maxHeartbeats 1000000 in
theorem contains_any (w : World) (v : Value) (l : List Int) (x : Int) (hv : RdF w v l.length (fun j => .int .i64 (lg l j))) (hn : l.length ≤ 1000000) :
    Calls Tryd.prog 64 #[v, .int .i64 x] w fun e w' => e = .returned (.bool (decide (x ∈ l))) ∧ w' = w := by
  have HI := Lib.hid (index_any w v l.length (lg l) x hv (by omega))
  obtain ⟨a, c, rfl⟩ := hv.slice
  clear hv
  by_cases h : x ∈ l
  · have hi := idx_mem l x h
    have HD := Lib.hid (decide_eq_true h)
    rw [hi] at HI
    clear hi h
    go_enter Tryd.func64, Tryd.ntmps64
    go_wp2_with fail
    refine HI.out.mono ?_
    rintro e w' ⟨rfl, rfl⟩
    go_wp2
    go_ret
    exact ⟨by rw [HD.out]; simp, rfl⟩
  · have hi := idx_not l x h
    have HD := Lib.hid (decide_eq_false h)
    rw [hi] at HI
    clear hi h
    go_enter Tryd.func64, Tryd.ntmps64
    go_wp2_with fail
    refine HI.out.mono ?_
    rintro e w' ⟨rfl, rfl⟩
    go_wp2
    go_ret
    exact ⟨by rw [HD.out]; simp, rfl⟩

set_option maxHeartbeats 1000000 in
theorem again_any (w : World) (v : Value) (n : Nat) (f : Nat → Int) (x : Int) (hv : RdF w v n (fun j => .int .i64 (f j))) (hn : n ≤ 1000000) :
    Calls Tryd.prog 65 #[v, .int .i64 x] w fun e w' => e = .returned (.int .i64 (fst f x n)) ∧ w' = w := by
  have HI := Lib.hid (index_any w v n f x hv (by omega))
  obtain ⟨a, c, rfl⟩ := hv.slice
  have hle := fst_le f x n
  clear hv
  by_cases h : fst f x n < n
  · have hi : idx f x n = (fst f x n : Int) := by unfold idx; rw [if_pos h]
    rw [hi] at HI
    clear hi
    generalize fst f x n = q at *
    have q0 : (0 : Int) ≤ (q : Int) := by omega
    go_enter Tryd.func65, Tryd.ntmps65
    go_wp2_with fail
    refine HI.out.mono ?_
    rintro e w' ⟨rfl, rfl⟩
    go_wp2
    go_ret
    exact ⟨rfl, rfl⟩
  · have hi : idx f x n = -1 := by unfold idx; rw [if_neg h]
    have e : fst f x n = n := by omega
    have E := Lib.hid e
    rw [hi] at HI
    clear hi h hle e
    go_enter Tryd.func65, Tryd.ntmps65
    go_wp2_with fail
    refine HI.out.mono ?_
    rintro e w' ⟨rfl, rfl⟩
    go_wp2
    go_ret
    exact ⟨by rw [E.out]; rfl, rfl⟩

/-- two rows of the call's own -/
structure PG (w : World) (B : Nat) (v u : Value) (l g : List Int) : Prop where
  one : OwnF w B 3 v l.length (fun j => .int .i64 (lg l j))
  two : OwnF w B 3 u g.length (fun j => .int .i64 (lg g j))
  ap : ∀ x ∈ v.ownBlock.toList, x ∉ u.ownBlock.toList

theorem PG.kept {w w' : World} {B : Nat} {v u : Value} {l g : List Int} (h : PG w B v u l g) (hf : Fr [] w w') : PG w' B v u l g :=
  ⟨h.one.kept hf (by simp), h.two.kept hf (by simp), h.ap⟩

theorem own_snoc {w : World} {B : Nat} {v : Value} {l : List Int} {x : Int} (h : OwnF w B 3 v (l.length + 1) (app l.length (fun j => .int .i64 (lg l j)) (fun _ => .int .i64 x))) :
    OwnF w B 3 v (l ++ [x]).length (fun j => .int .i64 (lg (l ++ [x]) j)) := by
  rw [List.length_append]
  refine h.congr (fun j hj => ?_)
  rw [← lg_snoc l x j hj]
  unfold app
  by_cases h1 : j < l.length
  · rw [if_pos h1, if_pos h1]
  · rw [if_neg h1, if_neg h1]

theorem PG.first {w w' : World} {B : Nat} {v u v' : Value} {l g : List Int} {o : Obj} {x : Int} (h : PG w B v u l g) (ho : OwnF w' B 3 v' (l.length + 1) (app l.length (fun j => .int .i64 (lg l j)) (fun _ => .int .i64 x)))
    (hf : Fr v.ownBlock.toList (w.alloc o) w') (hn : SameOrNew (w.alloc o) v v') : PG w' B v' u (l ++ [x]) g := by
  refine ⟨own_snoc ho, (h.two.alloc o).kept hf (fun q hq hm => h.ap q hm (by rw [hq]; simp)), fun q hq hm => ?_⟩
  rcases hn q hq with h2 | h2
  · exact h.ap q h2 hm
  · have := h.two.lt q hm
    simp at h2; omega

theorem PG.second {w w' : World} {B : Nat} {v u u' : Value} {l g : List Int} {o : Obj} {x : Int} (h : PG w B v u l g) (ho : OwnF w' B 3 u' (g.length + 1) (app g.length (fun j => .int .i64 (lg g j)) (fun _ => .int .i64 x)))
    (hf : Fr u.ownBlock.toList (w.alloc o) w') (hn : SameOrNew (w.alloc o) u u') : PG w' B v u' l (g ++ [x]) := by
  refine ⟨(h.one.alloc o).kept hf (fun q hq hm => h.ap q (by rw [hq]; simp) hm), own_snoc ho, fun q hq hm => ?_⟩
  rcases hn q hm with h2 | h2
  · exact h.ap q hq h2
  · have := h.one.lt q hq
    simp at h2; omega

theorem PG.store {w : World} {B b c n : Nat} {u : Value} {l g : List Int} (h : PG w B (.slice (some ⟨b, 0, none⟩) n c) u l g) (hn : n = l.length) (i : Nat) (hi : i < n) (x : Int) :
    (w.cell? ⟨b, i, none⟩ = some (.int .i64 (lg l i)) ∧ w.frozen? ⟨b, i, none⟩ = false) ∧ PG (w.setCell ⟨b, i, none⟩ (.int .i64 x)) B (.slice (some ⟨b, 0, none⟩) n c) u (l.set i x) g ∧ B ≤ b := by
  subst hn
  obtain ⟨b', c', he, hb, hr⟩ := h.one.row (by omega)
  simp only [Value.slice.injEq, Option.some.injEq, Addr.mk.injEq, and_true, true_and] at he
  obtain ⟨rfl, rfl⟩ := he
  have hu := h.ap b (by simp [Value.ownBlock])
  refine ⟨⟨hr.cell i hi, hr.frozen i⟩, ⟨?_, h.two.kept ((Fr.refl [b] w).setCell (p := ⟨b, i, none⟩) (by simp) _) (fun q hq hm => hu (by simp at hm; rw [← hm]; simp [hq])), h.ap⟩, hb⟩
  rw [List.length_set]
  refine .inr ⟨b, c, rfl, hb, (hr.stored i (.int .i64 x)).congr (fun j hj => ?_)⟩
  unfold lg
  rw [List.getD_eq_getElem?_getD, List.getD_eq_getElem?_getD, List.getElem?_set]
  by_cases hji : j = i
  · subst hji; simp [hi]
  · rw [if_neg hji, if_neg (by omega)]

set_option maxRecDepth 100000 in
set_option maxHeartbeats 4000000 in
theorem plan_any (w : World) (a : Option Addr) (m c : Nat) (kf : Nat → Int) (n : Nat) (hv : RdF w (.slice a m c) m (fun j => .int .i64 (kf j))) (hn : 1 ≤ n ∧ n ≤ 1000) (hm : m ≤ 1000) :
    Calls Tryd.prog 60 #[.slice a m c, .int .i64 n] w fun e w' => ∃ u, e = .returned (.tuple #[.int .i64 (pmi kf m n m), u]) ∧ OwnF w' w.heap.size 3 u (pgo kf m n m).length (fun j => .int .i64 (lg (pgo kf m n m) j)) ∧ Fr [] w w' := by
  have HV := Lib.hid hv; clear hv
  go_enter Tryd.func60, Tryd.ntmps60
  go_wp2
  go_loopw [4, 5, 6, 17] (fun ms u v i wr => ∃ k : Nat, k ≤ m ∧ i = .int .i64 k ∧ ms = .int .i64 (pmi kf m n k) ∧ PG wr w.heap.size v u (pl kf m n k) (pgo kf m n k) ∧ Fr [] w wr) (fun _ _ _ i _ => m - (intOf i).toNat)
  case atStart => exact ⟨0, by omega, rfl, rfl, ⟨OwnF.nil _ _ _ _, OwnF.nil _ _ _ _, fun x hx => by simp [Value.ownBlock] at hx⟩, Fr.refl _ _⟩
  case round =>
    obtain ⟨k, hk, rfl, rfl, hP, hf⟩ := hrel
    have hsz := hf.size
    have HP := Lib.hid hP
    have HF := Lib.hid hf; clear hf
    by_cases hlt : k < m
    · obtain ⟨b1, o1, c1, he1, hmc, _, _, hc1⟩ := HV.out.shape (by omega)
      simp only [Value.slice.injEq, true_and] at he1
      obtain ⟨rfl, rfl⟩ := he1
      have k1 := HF.out.cell (hc1 k hlt) (by simp)
      have HC1 := Lib.hid hc1
      clear hc1
      have k0 : (0 : Int) ≤ (k : Int) := by omega
      have k3 : (k : Int) < (m : Int) := by omega
      obtain ⟨av, cv, hav⟩ := hP.one.rd.slice
      subst hav
      have hll := pl_len kf m n k
      have hgl := pgo_len kf m n k
      have hmi := pmi_le kf m n k
      have HCT := Lib.hid (contains_any wr _ (pl kf m n k) (kf k) hP.one.rd (by omega))
      have e1 : pl kf m n (k + 1) = if kf k ∈ pl kf m n k then pl kf m n k else if (pl kf m n k).length < n then pl kf m n k ++ [kf k] else (pl kf m n k).set (wst kf m k (pl kf m n k) (pl kf m n k).length) (kf k) := rfl
      have e2 : pgo kf m n (k + 1) = if kf k ∈ pl kf m n k then pgo kf m n k else if (pl kf m n k).length < n then pgo kf m n k else pgo kf m n k ++ [lg (pl kf m n k) (wst kf m k (pl kf m n k) (pl kf m n k).length)] := rfl
      have e3 : pmi kf m n (k + 1) = pmi kf m n k + if kf k ∈ pl kf m n k then 0 else 1 := rfl
      clear hP
      generalize pl kf m n k = L at *
      generalize pgo kf m n k = G at *
      generalize pmi kf m n k = M at *
      by_cases hmem : kf k ∈ L
      · rw [if_pos hmem] at e1 e2 e3
        have HD := Lib.hid (decide_eq_true hmem)
        have E1 := Lib.hid e1; have E2 := Lib.hid e2; have E3 := Lib.hid e3
        clear e1 e2 e3 hmem
        go_wp2_with fail
        refine HCT.out.mono ?_
        rintro e w2 ⟨rfl, rfl⟩
        rw [HD.out]
        go_wp2
        go_roundw
        case rel => exact ⟨k + 1, by omega, by go_num, by rw [E3.out]; rfl, by rw [E1.out, E2.out]; exact HP.out, HF.out⟩
        case measure => simp [intOf]; omega
      · rw [if_neg hmem] at e1 e2 e3
        have HD := Lib.hid (decide_eq_false hmem)
        have E3 := Lib.hid e3
        clear e3 hmem
        by_cases hfull : L.length < n
        · rw [if_pos hfull] at e1 e2
          have E1 := Lib.hid e1; have E2 := Lib.hid e2
          have p1 : ((L.length : Nat) : Int) < (n : Int) := by omega
          have hml : L.length + 1 ≤ maxLen := by unfold maxLen; omega
          clear e1 e2
          go_wp2_with fail
          refine HCT.out.mono ?_
          rintro e w2 ⟨rfl, rfl⟩
          rw [HD.out]
          go_wp2_with (at_builtin; refine wpList_app rfl (.tmp 31) (.tmp 33) 22 rfl 3 infoInt Tryd.underlying22 rfl (HP.out.one.alloc _) rfl (rd_one _ _ _ (by simp)) rfl (fun _ _ => rfl) hml (by omega) (by simp; omega) ?_; intro v4 w4 ho4 hf4 hn4; have HP4 := Lib.hid (HP.out.first ho4 hf4 hn4); have HF4 := Lib.hid ((HF.out.alloc _).trans hf4 (fun x hx => .inr (HP.out.one.ge x hx))); clear ho4 hf4 hn4)
          go_roundw
          case rel => exact ⟨k + 1, by omega, by go_num, by rw [E3.out]; go_num, by rw [E1.out, E2.out]; exact HP4.out, HF4.out⟩
          case measure => simp [intOf]; omega
        · rw [if_neg hfull] at e1 e2
          have E1 := Lib.hid e1; have E2 := Lib.hid e2
          have p1 : ¬ ((L.length : Nat) : Int) < (n : Int) := by omega
          clear e1 e2
          go_wp2_with fail
          refine HCT.out.mono ?_
          rintro e w2 ⟨rfl, rfl⟩
          rw [HD.out]
          go_upto_region 9 with fail
          go_cut [9] (fun v wx => (∃ A C, v = .slice A (m - (k + 1)) C) ∧ Hid (∀ wy, (∀ x, wy.cell? x = w2.cell? x) → RdF wy v (m - (k + 1)) (fun j => .int .i64 (kf (k + 1 + j)))) ∧ wx = w2)
          case first =>
            have hcl : ∀ j, j < m → w2.cell? ⟨b1, o1 + j, none⟩ = some (.int .i64 (kf j)) := fun j hj => HF.out.cell (HC1.out j hj) (by simp)
            have HCL := Lib.hid hcl
            have hcmx := (HV.out.le_cap).2
            clear hcl
            by_cases hck : c = k + 1
            · have hmk : m - (k + 1) = 0 := by omega
              have HMK := Lib.hid hmk
              subst hck
              clear hmk
              go_wp2_with fail
              go_meet
              refine ⟨⟨_, _, by rw [HMK.out]⟩, Lib.hid (fun wy _ => ?_), by trivial⟩
              rw [HMK.out]
              exact .inr ⟨_, 0, rfl, Nat.le_refl _, Nat.zero_le _, fun j hj => absurd hj (Nat.not_lt_zero _)⟩
            · go_wp2_with fail
              go_meet
              refine ⟨⟨_, _, rfl⟩, Lib.hid (fun wy hy => ?_), by trivial⟩
              refine .inr ⟨_, c - (k + 1), rfl, by omega, by omega, fun j hj => ?_⟩
              have e : (⟨b1, o1 + (k + 1), none⟩ : Addr).add j = ⟨b1, o1 + (k + 1 + j), none⟩ := by unfold Addr.add; split <;> simp_all [Nat.add_assoc]
              rw [e, hy]
              exact HCL.out _ (by omega)
          case rest =>
            obtain ⟨⟨A, C, rfl⟩, HRD, hwc⟩ := hcut
            replace hwc := hwc.symm
            subst hwc
            have hKpos : 0 < L.length := by omega
            obtain ⟨g, cap, hg1, hg2, hg3⟩ := HP.out.one.row hKpos
            simp only [Value.slice.injEq, true_and] at hg1
            obtain ⟨rfl, rfl⟩ := hg1
            have HCE := Lib.hid (fun j hj => hg3.cell j hj)
            obtain ⟨ag, hag⟩ : ∃ ag : Int → Nat, ∀ x, agn kf m k x = ag x := ⟨agn kf m k, fun _ => rfl⟩
            have HAG := Lib.hid (show ∀ (wy : World) (hy : ∀ x, wy.cell? x = w2.cell? x) (x : Int), Calls Tryd.prog 65 #[.slice A (m - (k + 1)) C, .int .i64 x] wy (fun e w' => e = .returned (.int .i64 (ag x)) ∧ w' = wy) from fun wy hy x => by
              rw [← hag]
              exact again_any wy _ (m - (k + 1)) (fun j => kf (k + 1 + j)) x (HRD.out wy hy) (by omega))
            have HAGG := Lib.hid hag
            clear hag
            have HWL := Lib.hid (fun j hj => wst_lt kf m k L j L.length hj hKpos)
            have HWS := Lib.hid (fun j => (show wst kf m k L (j + 1) = if btr kf m k L j (wst kf m k L j) then j else wst kf m k L j from rfl))
            generalize hR : m - (k + 1) = R at *
            have HRR := Lib.hid hR
            clear hg3 k1 hR
            generalize hKK : L.length = K at *
            have HKK := Lib.hid hKK
            clear hKK
            go_wp2
            go_loopw [10, 41] (fun ws i wx => ∃ j : Nat, j ≤ K ∧ i = .int .i64 j ∧ ws = .int .i64 (wst kf m k L j) ∧ ∃ q, wx = w2.drewN q) (fun _ i _ => K - (intOf i).toNat)
            case atStart => exact ⟨0, by omega, rfl, rfl, 0, rfl⟩
            case round =>
              obtain ⟨j, hj, rfl, rfl, hq⟩ := hrel
              have HQ := Lib.hid hq
              have hwl := HWL.out j hj
              have hws := HWS.out j
              by_cases hjK : j < K
              · have t1 : wr.cell? ⟨g, j, none⟩ = some (.int .i64 (lg L j)) := by obtain ⟨q, rfl⟩ := hq; exact HCE.out j hjK
                have t2 : wr.cell? ⟨g, wst kf m k L j, none⟩ = some (.int .i64 (lg L (wst kf m k L j))) := by obtain ⟨q, rfl⟩ := hq; exact HCE.out _ hwl
                have hcc : ∀ x, wr.cell? x = w2.cell? x := by obtain ⟨q, rfl⟩ := hq; exact fun _ => rfl
                have HCC := Lib.hid hcc
                clear hq hcc
                have j0 : (0 : Int) ≤ (j : Int) := by omega
                have j3 : (j : Int) < (K : Int) := by omega
                have HBT := Lib.hid (Iff.refl (btr kf m k L j (wst kf m k L j)))
                unfold btr at hws
                have h0 : (0 : Int) ≤ (wst kf m k L j : Int) := by omega
                have h3 : (wst kf m k L j : Int) < (K : Int) := by omega
                simp only [HAGG.out] at hws
                generalize wst kf m k L j = ww at *
                have HA := Lib.hid (fun (n : Nat) (x : Int) => HAG.out (wr.drewN n) (fun y => HCC.out y) x)
                clear HBT
                generalize hxj : lg L j = xj at *
                generalize hxw : lg L ww = xw at *
                have hcase : (ag xw < ag xj) ∨ (ag xj = ag xw ∧ xj < xw) ∨ (ag xj = ag xw ∧ ¬ xj < xw) ∨ (ag xj < ag xw) := by omega
                clear hxj hxw
                rcases hcase with h1 | ⟨h2, h1⟩ | ⟨h2, h1⟩ | h1
                · have p1 : (ag xw : Int) < (ag xj : Int) := by omega
                  rw [if_pos (.inl h1)] at hws
                  have HWN := Lib.hid hws; clear hws h1
                  go_wp2_with fail
                  go_quiet ((go_at_call 65; exact Calls.quiet_of_same (HA.out _ _)))
                  go_wp2
                  go_roundw
                  case rel => exact ⟨j + 1, by omega, by go_num, by rw [HWN.out], by obtain ⟨q, rfl⟩ := HQ.out; exact ⟨q + nq, World.drewN_drewN _ _ _⟩⟩
                  case measure => simp [intOf]; omega
                · have p1 : ((ag xj : Int) == (ag xw : Int)) = true := by simp [h2]
                  have p2 : ¬ (ag xw : Int) < (ag xj : Int) := by omega
                  rw [if_pos (.inr ⟨h2, h1⟩)] at hws
                  have HWN := Lib.hid hws; clear hws h2
                  go_wp2_with fail
                  go_quiet ((go_at_call 65; exact Calls.quiet_of_same (HA.out _ _)))
                  go_wp2
                  go_roundw
                  case rel => exact ⟨j + 1, by omega, by go_num, by rw [HWN.out], by obtain ⟨q, rfl⟩ := HQ.out; exact ⟨q + nq, World.drewN_drewN _ _ _⟩⟩
                  case measure => simp [intOf]; omega
                · have p1 : ((ag xj : Int) == (ag xw : Int)) = true := by simp [h2]
                  have p2 : ¬ (ag xw : Int) < (ag xj : Int) := by omega
                  rw [if_neg (by omega)] at hws
                  have HWN := Lib.hid hws; clear hws h2
                  go_wp2_with fail
                  go_quiet ((go_at_call 65; exact Calls.quiet_of_same (HA.out _ _)))
                  go_wp2
                  go_roundw
                  case rel => exact ⟨j + 1, by omega, by go_num, by rw [HWN.out], by obtain ⟨q, rfl⟩ := HQ.out; exact ⟨q + nq, World.drewN_drewN _ _ _⟩⟩
                  case measure => simp [intOf]; omega
                · have p1 : ¬ (ag xw : Int) < (ag xj : Int) := by omega
                  have p2 : ((ag xj : Int) == (ag xw : Int)) = false := by simp; omega
                  have p3 : ¬ (ag xj : Int) = (ag xw : Int) := by omega
                  rw [if_neg (by omega)] at hws
                  have HWN := Lib.hid hws; clear hws h1
                  go_wp2_with fail
                  go_quiet ((go_at_call 65; exact Calls.quiet_of_same (HA.out _ _)))
                  go_wp2
                  go_roundw
                  case rel => exact ⟨j + 1, by omega, by go_num, by rw [HWN.out], by obtain ⟨q, rfl⟩ := HQ.out; exact ⟨q + nq, World.drewN_drewN _ _ _⟩⟩
                  case measure => simp [intOf]; omega
              · obtain rfl : j = K := by omega
                obtain ⟨q, rfl⟩ := hq
                clear HQ
                have t2 := HCE.out _ hwl
                have hsz2 := HF.out.size
                have HP2 := Lib.hid (HP.out.kept ((Fr.refl [] w2).drewN q))
                have HF2 := Lib.hid (HF.out.drewN q)
                have hE1 := E1.out
                have hE2 := E2.out
                have HE1 := Lib.hid hE1; have HE2 := Lib.hid hE2
                have h0 : (0 : Int) ≤ (wst kf m k L j : Int) := by omega
                have h3 : (wst kf m k L j : Int) < (j : Int) := by omega
                generalize wst kf m k L j = ww at *
                have hml : G.length + 1 ≤ maxLen := by unfold maxLen; omega
                clear hE1 hE2 hws
                generalize hwq : w2.drewN q = wq at *
                have t3 : wq.cell? ⟨g, ww, none⟩ = some (.int .i64 (lg L ww)) := by rw [← hwq]; exact t2
                have hszq : w.heap.size ≤ wq.heap.size := by rw [← hwq]; exact hsz2
                clear t2 hwq
                go_wp2_with (at_builtin; refine wpList_app rfl (.tmp 73) (.tmp 78) 22 rfl 3 infoInt Tryd.underlying22 rfl (HP2.out.two.alloc _) rfl (rd_one _ _ _ (by simp)) rfl (fun _ _ => rfl) hml (by omega) (by simp; omega) ?_; intro v4 w4 ho4 hf4 hn4; have hp4 := HP2.out.second ho4 hf4 hn4; have hst := hp4.store HKK.out.symm ww hwl (kf k); obtain ⟨⟨y1, y2⟩, y3, y4⟩ := hst; have HP4 := Lib.hid y3; have HF4 := Lib.hid (((HF2.out.alloc _).trans hf4 (fun x hx => .inr (HP2.out.two.ge x hx))).setCell (p := ⟨g, ww, none⟩) (.inr y4) (.int .i64 (kf k))); clear ho4 hf4 hn4 hp4 y3)
                go_wp2
                go_roundw
                case rel => exact ⟨k + 1, by omega, by go_num, by rw [E3.out]; go_num, by rw [HE1.out, HE2.out]; exact HP4.out, HF4.out⟩
                case measure => simp [intOf]; omega
    · obtain rfl : k = m := by omega
      obtain ⟨au, cu, hau⟩ := hP.two.rd.slice
      subst hau
      clear hP
      go_wp2
      go_ret2
      exact ⟨_, rfl, HP.out.two, HF.out⟩

end Go.Proofs.YthopnlnknicgbaaDoor
