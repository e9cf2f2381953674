/- without, Served of the reference: what each does. -/
import Derived.Test.YthopnlnknicgbaaAmong
import Derived.Test.YthopnlnknicgbaaPlan
import Derived.Test.YthopnlnknicgbaaBelady
namespace Go.Proofs.Ythopnlnknicgbaa
open Go.RowKit

/-- without y -/
def wout (y : Int) (l : List Int) : List Int := l.filter (fun z => decide (z ≠ y))

theorem wout_succ (y : Int) (l : List Int) (j : Nat) (hj : j < l.length) : wout y (l.take (j + 1)) = if lg l j = y then wout y (l.take j) else wout y (l.take j) ++ [lg l j] := by
  unfold wout
  rw [List.take_succ_eq_append_getElem hj, List.filter_append, lg_lt hj]
  by_cases h : l[j] = y
  · rw [if_pos h]; simp [h]
  · rw [if_neg h]; simp [h]

theorem wout_len (y : Int) (l : List Int) : (wout y l).length ≤ l.length := List.length_filter_le _ _

theorem wout_lt (y : Int) (l : List Int) (hy : y ∈ l) : (wout y l).length + 1 ≤ l.length := by
  induction l with
  | nil => cases hy
  | cons x l ih =>
    unfold wout
    rw [List.filter_cons]
    by_cases hx : x = y
    · rw [if_neg (by simpa using hx)]
      have := List.length_filter_le (fun z => decide (z ≠ y)) l
      simp only [List.length_cons]; omega
    · rw [if_pos (by simpa using hx)]
      have := ih ((List.mem_cons.1 hy).resolve_left (fun e => hx e.symm))
      unfold wout at this
      simp only [List.length_cons]; omega

set_option maxRecDepth 100000 in
set_option maxHeartbeats 2000000 in
theorem without_any (w : World) (v : Value) (l : List Int) (y : Int) (hv : RdF w v l.length (fun j => .int .i64 (lg l j))) (hn : l.length ≤ 1000) :
    Calls Try.prog 41 #[v, .int .i64 y] w fun e w' => ∃ u, e = .returned u ∧ OwnF w' w.heap.size 3 u (wout y l).length (fun j => .int .i64 (lg (wout y l) j)) ∧ Fr [] w w' := by
  obtain ⟨a, c, rfl⟩ := hv.slice
  have HV := Lib.hid hv; clear hv
  have HLL := Lib.hid (show wout y l = wout y (l.take l.length) by rw [List.take_length])
  have HWS := Lib.hid (fun j hj => wout_succ y l j hj)
  have HWL := Lib.hid (fun j => Nat.le_trans (wout_len y (l.take j)) (List.length_take_le j l))
  generalize hm : l.length = m at *
  have HM := Lib.hid hm; clear hm
  go_enter Try.func41, Try.ntmps41
  go_wp2
  go_loopw [5, 6] (fun u i wr => ∃ j : Nat, j ≤ m ∧ i = .int .i64 j ∧ OwnF wr w.heap.size 3 u (wout y (l.take j)).length (fun q => .int .i64 (lg (wout y (l.take j)) q)) ∧ Fr [] w wr) (fun _ i _ => m - (intOf i).toNat)
  case atStart => exact ⟨0, by omega, rfl, OwnF.nil _ _ _ _, Fr.refl _ _⟩
  case round =>
    obtain ⟨j, hj, rfl, ho, hf⟩ := hrel
    have hsz := hf.size
    have HF := Lib.hid hf; clear hf
    by_cases hlt : j < m
    · obtain ⟨b1, o1, c1, he1, _, _, _, hc1⟩ := HV.out.shape (by omega)
      simp only [Value.slice.injEq, true_and] at he1
      obtain ⟨rfl, rfl⟩ := he1
      have k1 := HF.out.cell (hc1 j hlt) (by simp)
      clear hc1
      have k0 : (0 : Int) ≤ (j : Int) := by omega
      have k3 : (j : Int) < (m : Int) := by omega
      have hws := HWS.out j hlt
      have hwl := HWL.out j
      obtain ⟨av, cv, hav⟩ := ho.rd.slice
      subst hav
      have HO := Lib.hid ho; clear ho
      generalize wout y (l.take j) = L at *
      generalize lg l j = x at *
      by_cases hx : x = y
      · rw [if_pos hx] at hws
        have HW := Lib.hid hws
        have hb : (x != y) = false := by simp [hx]
        clear hws
        subst hx
        go_wp2
        go_roundw
        case rel => exact ⟨j + 1, by omega, by go_num, by rw [HW.out]; exact HO.out, HF.out⟩
        case measure => simp [intOf]; omega
      · rw [if_neg hx] at hws
        have HW := Lib.hid hws
        have hb : (x != y) = true := by simpa using hx
        have hml : L.length + 1 ≤ maxLen := by unfold maxLen; omega
        clear hws
        go_wp2_with (at_builtin; refine wpList_app rfl (.tmp 19) (.tmp 24) 22 rfl 3 infoInt Try.underlying22 rfl (HO.out.alloc _) rfl (rd_one _ _ _ (by simp)) rfl (fun _ _ => rfl) hml (by omega) (by simp; omega) ?_; intro v4 w4 ho4 hf4 hn4; have HO4 := Lib.hid (own_snoc ho4); have HF4 := Lib.hid ((HF.out.alloc _).trans hf4 (fun x hx => .inr (HO.out.ge x hx))); clear ho4 hf4 hn4)
        go_roundw
        case rel => exact ⟨j + 1, by omega, by go_num, by rw [HW.out]; exact HO4.out, HF4.out⟩
        case measure => simp [intOf]; omega
    · obtain rfl : j = m := by omega
      have HO := Lib.hid ho; clear ho
      go_wp2
      go_ret
      refine ⟨_, rfl, ?_, HF.out⟩
      rw [HLL.out]
      exact HO.out

theorem tmod_bd (z : Int) (N : Nat) (hN : 0 < N) : -(N : Int) < z.tmod N ∧ z.tmod N < N := by
  by_cases hz : 0 ≤ z
  · rw [Int.tmod_eq_emod_of_nonneg hz]
    have h1 := Int.emod_nonneg z (show (N : Int) ≠ 0 by omega)
    have h2 := Int.emod_lt_of_pos z (show (0 : Int) < N by omega)
    omega
  · have e : z.tmod N = -((-z).tmod N) := by rw [Int.neg_tmod]; omega
    rw [e, Int.tmod_eq_emod_of_nonneg (by omega)]
    have h1 := Int.emod_nonneg (-z) (show (N : Int) ≠ 0 by omega)
    have h2 := Int.emod_lt_of_pos (-z) (show (0 : Int) < N by omega)
    omega

/-- one key more, where it is there -/
theorem pag_hit {kf : Nat → Int} {h k : Nat} {S : List Int} {c : Nat} (hP : Pag kf h k S c) (hn : S.Nodup) (hl : S.length ≤ h) (hx : kf k ∈ S) : Pag kf h (k + 1) S c :=
  ⟨S, c, hP, hn, hl, hx, fun x hx => .inl hx, by rw [if_pos hx]; rfl⟩

/-- one key more, where there is room -/
theorem pag_room {kf : Nat → Int} {h k : Nat} {S T : List Int} {c : Nat} (hP : Pag kf h k S c) (hn : T.Nodup) (hl : T.length < h) (hx : kf k ∉ S) (hT : ∀ x, x ∈ T → x ∈ S) :
    Pag kf h (k + 1) (T ++ [kf k]) (c + 1) ∧ (T ++ [kf k]).Nodup ∧ (T ++ [kf k]).length ≤ h := by
  have h1 : (T ++ [kf k]).Nodup := by
    rw [List.nodup_append]
    refine ⟨hn, by simp, fun a ha b hb => ?_⟩
    simp at hb
    subst hb
    exact fun e => hx (e ▸ hT _ ha)
  have h2 : (T ++ [kf k]).length ≤ h := by rw [List.length_append]; simp; omega
  exact ⟨⟨S, c, hP, h1, h2, by simp, fun x hx => by
    rcases List.mem_append.1 hx with h | h
    · exact .inl (hT x h)
    · exact .inr (by simpa using h), by rw [if_neg hx]⟩, h1, h2⟩

set_option maxRecDepth 100000 in
set_option maxHeartbeats 4000000 in
theorem served_any (w : World) (a : Option Addr) (m c : Nat) (kf : Nat → Int) (b : Option Addr) (q d : Nat) (pf : Nat → Int) (N : Nat) (hv : RdF w (.slice a m c) m (fun j => .int .i64 (kf j))) (hu : RdF w (.slice b q d) q (fun j => .int .i64 (pf j))) (hN : 1 ≤ N ∧ N ≤ 1000) (hm : m ≤ 1000) :
    Calls Try.prog 28 #[.slice a m c, .int .i64 N, .slice b q d] w fun e w' => (∃ (S : List Int) (ct : Nat), e = .returned (.int .i64 ct) ∧ Pag kf N m S ct) ∧ Fr [] w w' := by
  have HV := Lib.hid hv; clear hv
  have HU := Lib.hid hu; clear hu
  go_enter Try.func28, Try.ntmps28
  go_wp2
  go_loopw [7, 8, 9, 10] (fun v ct pv i wr => ∃ (k : Nat) (S : List Int) (C P : Nat), k ≤ m ∧ i = .int .i64 k ∧ ct = .int .i64 C ∧ C ≤ k ∧ pv = .int .i64 P ∧ P ≤ k ∧ Hid (Pag kf N k S C ∧ S.Nodup ∧ S.length ≤ N) ∧ OwnF wr w.heap.size 3 v S.length (fun j => .int .i64 (lg S j)) ∧ Fr [] w wr) (fun _ _ _ i _ => m - (intOf i).toNat)
  case atStart => exact ⟨0, [], 0, 0, by omega, rfl, rfl, by omega, rfl, by omega, Lib.hid ⟨⟨rfl, rfl⟩, List.nodup_nil, by simp⟩, OwnF.nil _ _ _ _, Fr.refl _ _⟩
  case round =>
    obtain ⟨k, S, C, P, hk, rfl, rfl, hC, rfl, hP, HPG, ho, hf⟩ := hrel
    have hsz := hf.size
    have HF := Lib.hid hf; clear hf
    by_cases hlt : k < m
    · obtain ⟨b1, o1, c1, he1, _, _, _, hc1⟩ := HV.out.shape (by omega)
      simp only [Value.slice.injEq, true_and] at he1
      obtain ⟨rfl, rfl⟩ := he1
      have K1 := Lib.hid (hc1 k hlt)
      have k1 := HF.out.cell K1.out (by simp)
      clear hc1
      have k0 : (0 : Int) ≤ (k : Int) := by omega
      have k3 : (k : Int) < (m : Int) := by omega
      have hSl := HPG.out.2.2
      have HAM := Lib.hid (among_any wr _ S (kf k) ho.rd (by omega))
      obtain ⟨av, cv, hav⟩ := ho.rd.slice
      subst hav
      have HO := Lib.hid ho; clear ho
      by_cases hmem : kf k ∈ S
      · have HD := Lib.hid (decide_eq_true hmem)
        have HPN := Lib.hid (pag_hit HPG.out.1 HPG.out.2.1 HPG.out.2.2 hmem)
        clear hmem
        go_wp2_with fail
        refine HAM.out.mono ?_
        rintro e w2 ⟨rfl, rfl⟩
        rw [HD.out]
        go_wp2
        go_roundw
        case rel => exact ⟨k + 1, S, C, P, by omega, by go_num, rfl, by omega, rfl, by omega, Lib.hid ⟨HPN.out, HPG.out.2⟩, HO.out, HF.out⟩
        case measure => simp [intOf]; omega
      · have HD := Lib.hid (decide_eq_false hmem)
        have HNM := Lib.hid hmem
        clear hmem
        by_cases hfull : S.length = N
        · have hfb : (((S.length : Nat) : Int) == (N : Int)) = true := by simp [hfull]
          have HFU := Lib.hid hfull
          clear hfull
          go_wp2_with fail
          refine HAM.out.mono ?_
          rintro e w2 ⟨rfl, rfl⟩
          rw [HD.out]
          go_upto_if 33 with fail
          go_cut [11] (fun v wx => ∃ t : Nat, t < N ∧ v = .int .i64 t ∧ wx = w2)
          case first =>
            by_cases hPq : P < q
            · obtain ⟨b2, o2, c2, he2, _, _, _, hc2⟩ := HU.out.shape (by omega)
              simp only [Value.slice.injEq, true_and] at he2
              obtain ⟨rfl, rfl⟩ := he2
              have x1 := HF.out.cell (hc2 P hPq) (by simp)
              clear hc2 k1
              have p0 : (0 : Int) ≤ (P : Int) := by omega
              have p3 : (P : Int) < (q : Int) := by omega
              have hT := tmod_bd (pf P) N (by omega)
              generalize pf P = z at *
              have q0 : ¬ (N : Int) = 0 := by omega
              have q00 : ¬ N = 0 := by omega
              obtain ⟨T, q1⟩ : ∃ T, z.tmod (N : Int) = T := ⟨_, rfl⟩
              rw [q1] at hT
              by_cases hT0 : T < 0
              · obtain ⟨t, ht⟩ : ∃ t : Nat, T + (N : Int) = (t : Int) := ⟨(T + N).toNat, by omega⟩
                have htN : t < N := by omega
                have HT := Lib.hid ht
                clear ht
                go_wp2_with fail
                go_meet
                exact ⟨t, htN, by rw [← HT.out], by trivial⟩
              · obtain ⟨t, rfl⟩ : ∃ t : Nat, T = (t : Int) := ⟨T.toNat, by omega⟩
                have htN : t < N := by omega
                go_wp2_with fail
                go_meet
                exact ⟨t, htN, rfl, by trivial⟩
            · have p3 : ¬ (P : Int) < (q : Int) := by omega
              go_wp2_with fail
              go_meet
              exact ⟨0, by omega, rfl, by trivial⟩
          case rest =>
            obtain ⟨t, ht, rfl, hwc⟩ := hcut
            replace hwc := hwc.symm
            subst hwc
            have hfu := HFU.out
            obtain ⟨g, cap, hg1, hg2, hg3⟩ := HO.out.row (by omega)
            simp only [Value.slice.injEq, true_and] at hg1
            obtain ⟨rfl, rfl⟩ := hg1
            have y1 := hg3.cell t (by omega)
            have hyS : lg S t ∈ S := by rw [lg_lt (by omega)]; exact List.getElem_mem _
            have hwl := wout_lt (lg S t) S hyS
            have HWO := Lib.hid (without_any w2 _ S (lg S t) HO.out.rd (by omega))
            have HPN := Lib.hid (pag_room (T := wout (lg S t) S) HPG.out.1 (HPG.out.2.1.filter _) (by omega) HNM.out (fun x hx => (List.mem_filter.1 hx).1))
            have t0 : (0 : Int) ≤ (t : Int) := by omega
            have t3 : (t : Int) < ((S.length : Nat) : Int) := by omega
            have hwl2 : (wout (lg S t) S).length ≤ 1000 := by omega
            clear hg3 k1 hfu hyS hwl
            generalize wout (lg S t) S = T at *
            have hml : T.length + 1 ≤ maxLen := by unfold maxLen; omega
            go_wp2_with fail
            refine HWO.out.mono ?_
            rintro e w5 ⟨u, rfl, ho5, hf5⟩
            have HO5 := Lib.hid (ho5.mono hsz)
            have HF5 := Lib.hid (HF.out.trans hf5 (by simp))
            have hs5 := hf5.size
            have k2 := HF5.out.cell K1.out (by simp)
            clear ho5 hf5 y1
            go_wp2_with (at_builtin; refine wpList_app rfl (.tmp 53) (.tmp 58) 22 rfl 3 infoInt Try.underlying22 rfl (HO5.out.alloc _) rfl (rd_one _ _ _ (by simp)) rfl (fun _ _ => rfl) hml (by omega) (by simp; omega) ?_; intro v4 w4 ho4 hf4 hn4; have HO4 := Lib.hid (own_snoc ho4); have HF4 := Lib.hid ((HF5.out.alloc _).trans hf4 (fun x hx => .inr (HO5.out.ge x hx))); clear ho4 hf4 hn4)
            go_roundw
            case rel => exact ⟨k + 1, _, C + 1, P + 1, by omega, by go_num, by go_num, by omega, by go_num, by omega, Lib.hid HPN.out, HO4.out, HF4.out⟩
            case measure => simp [intOf]; omega
        · have hfb : (((S.length : Nat) : Int) == (N : Int)) = false := by simp; omega
          have hfb2 : ¬ ((S.length : Nat) : Int) = (N : Int) := by omega
          have HPN := Lib.hid (pag_room HPG.out.1 HPG.out.2.1 (by omega) HNM.out (fun x hx => hx))
          have hml : S.length + 1 ≤ maxLen := by unfold maxLen; omega
          clear hfull
          go_wp2_with fail
          refine HAM.out.mono ?_
          rintro e w2 ⟨rfl, rfl⟩
          rw [HD.out]
          go_wp2_with (at_builtin; refine wpList_app rfl (.tmp 53) (.tmp 58) 22 rfl 3 infoInt Try.underlying22 rfl (HO.out.alloc _) rfl (rd_one _ _ _ (by simp)) rfl (fun _ _ => rfl) hml (by omega) (by simp; omega) ?_; intro v4 w4 ho4 hf4 hn4; have HO4 := Lib.hid (own_snoc ho4); have HF4 := Lib.hid ((HF.out.alloc _).trans hf4 (fun x hx => .inr (HO.out.ge x hx))); clear ho4 hf4 hn4)
          go_roundw
          case rel => exact ⟨k + 1, _, C + 1, P, by omega, by go_num, by go_num, by omega, rfl, by omega, Lib.hid HPN.out, HO4.out, HF4.out⟩
          case measure => simp [intOf]; omega
    · obtain rfl : k = m := by omega
      have HO := Lib.hid ho; clear ho
      go_wp2
      go_ret
      exact ⟨⟨S, C, rfl, HPG.out.1⟩, HF.out⟩

end Go.Proofs.Ythopnlnknicgbaa
