/- FlightApart: the walk. -/
import Derived.Test.YthopnlnknicgbaaDoorFlight
import Derived.Test.YthopnlnknicgbaaDoorDoor
namespace Go.Proofs.YthopnlnknicgbaaDoor
open Go.RowKit

set_option maxHeartbeats 1000000 in
theorem flown_any (w : World) : Calls Tryd.prog 17 #[] w fun e w' => e = .returned (.bool true) ∧ Fr [] w w' := by
  go_enter Tryd.func17, Tryd.ntmps17
  go_wp2_with fail
  refine (flight_new _ 2).mono ?_
  rintro e w1 ⟨hf1, ⟨_, p, g, rfl, hp, hg, hP⟩ | ⟨hno, _⟩⟩
  · have hP1 : Fly w1 p g 2 (fun _ => 0) (fun _ => none) 0 := hP
    clear hP
    have f1 : ffr (fun _ => none) 2 = 0 := rfl
    go_wp2_with fail
    refine (flight_open _ hP1 (by omega) (by omega) 7 8).mono ?_
    rintro e w2 (⟨_, rfl, ⟨b2, hP2⟩, hf2⟩ | ⟨hbad, _⟩)
    · rw [f1] at hP2 ⊢
      have HF2 := Lib.hid (hf1.trans hf2 (S := []) (by simp; omega)); clear hf2
      have f2 : ffr (fun j => if j = 0 then some ((7 : Int), (8 : Int)) else none) 2 = 1 := rfl
      go_wp2_with fail
      refine (flight_open _ hP2 (by omega) (by omega) 9 9).mono ?_
      rintro e w3 (⟨_, rfl, ⟨b3, hP3⟩, hf3⟩ | ⟨hbad, _⟩)
      · rw [f2] at hP3 ⊢
        have HF3 := Lib.hid (HF2.out.trans hf3 (S := []) (by simp; omega)); clear hf3
        go_wp2_with fail
        refine (flight_close _ hP3 (by omega) (by omega) 0 (by omega) 7 8 rfl).mono ?_
        rintro e w4 ⟨rfl, ⟨b4, hP4⟩, hf4⟩
        have HF4 := Lib.hid (HF3.out.trans hf4 (S := []) (by simp; omega)); clear hf4
        have HP4 := Lib.hid hP4; clear hP4
        go_wp2_with fail
        refine (flight_busy _ HP4.out).mono ?_
        rintro e w5 ⟨rfl, rfl⟩
        go_wp2
        go_ret
        exact ⟨rfl, HF4.out⟩
      · rw [f2] at hbad; omega
    · rw [f1] at hbad; omega
  · exact absurd (by unfold FOk; omega) hno

/-- the first k are open, each at its own number -/
def opn (ids : Nat → Int) (k j : Nat) : Option (Int × Int) := if j < k then some ((j : Int), ids j) else none

theorem opn_free (ids : Nat → Int) (k N : Nat) (hk : k < N) : ffr (opn ids k) N = k :=
  ffr_hit _ N k hk (by unfold opn; rw [if_neg (by omega)]) (fun j hj => by unfold opn; rw [if_pos hj]; simp)

theorem opn_full (ids : Nat → Int) (N : Nat) : ffr (opn ids N) N = N := ffr_miss _ N (fun j hj => by unfold opn; rw [if_pos hj]; simp)

theorem opn_next (ids : Nat → Int) (k : Nat) : (fun j => if j = k then some ((k : Int), ids k) else opn ids k j) = opn ids (k + 1) := by
  funext j
  unfold opn
  by_cases h : j = k
  · subst h; rw [if_pos rfl, if_pos (by omega)]
  · rw [if_neg h]
    by_cases h2 : j < k
    · rw [if_pos h2, if_pos (by omega)]
    · rw [if_neg h2, if_neg (by omega)]

theorem opn_back (ids : Nat → Int) (k : Nat) : (fun j => if j = k then none else opn ids (k + 1) j) = opn ids k := by
  funext j
  unfold opn
  by_cases h : j = k
  · subst h; rw [if_pos rfl, if_neg (by omega)]
  · rw [if_neg h]
    by_cases h2 : j < k
    · rw [if_pos h2, if_pos (by omega)]
    · rw [if_neg h2, if_neg (by omega)]

theorem own_apart {w : World} {p g n B : Nat} {pb : Nat → Nat} {sl : Nat → Option (Int × Int)} {busy : Int} {v : Value} {k : Nat} {f : Nat → Value} (h : Fly w p g n pb sl busy) (ho : OwnF w B 3 v k f) :
    ∀ x, v.ownBlock = some x → x ∉ [p, g] := fun x hx => by
  rcases ho with ⟨rfl, _⟩ | ⟨y, cap, rfl, _, hr⟩
  · simp [Value.ownBlock] at hx
  · simp [Value.ownBlock] at hx
    subst hx
    obtain ⟨cur, hc, _⟩ := hr
    obtain ⟨cur2, hc2, _⟩ := h.row
    simp only [List.mem_cons, List.not_mem_nil, or_false, not_or]
    exact ⟨blkT hc h.blk (by decide), blkT hc hc2 (by decide)⟩

theorem Fly.appd {w w4 : World} {p g n B : Nat} {pb : Nat → Nat} {sl : Nat → Option (Int × Int)} {busy : Int} {v : Value} {k : Nat} {f : Nat → Value} (h : Fly w p g n pb sl busy) (ho : OwnF w B 3 v k f) (hf : Fr v.ownBlock.toList w w4) : Fly w4 p g n pb sl busy := by
  have ha := own_apart h ho
  refine ⟨hf.blk h.blk (fun hx => ha _ (by simpa using hx) (by simp)), h.row.kept hf (fun hx => ha _ (by simpa using hx) (by simp)), fun j hj a b e => hf.blk (h.ask j hj a b e) (fun hx => ?_), h.hp⟩
  rcases ho with ⟨rfl, _⟩ | ⟨y, cap, rfl, _, hr⟩
  · simp [Value.ownBlock] at hx
  · simp [Value.ownBlock] at hx
    obtain ⟨cur, hc, _⟩ := hr
    exact blkT (h.ask j hj a b e) hc (by decide) hx

set_option maxRecDepth 100000 in
set_option maxHeartbeats 4000000 in
theorem flightApart_any (w : World) (hg : Hand w) (n : Int) (a : Option Addr) (m c : Nat) (ids : Nat → Int) (hv : RdF w (.slice a m c) m (fun j => .int .i64 (ids j))) :
    Calls Tryd.prog 5 #[.int .i64 n, .slice a m c] w fun e w' => e = .returned (.bool true) ∧ Fr [] w w' := by
  have HV := Lib.hid hv; clear hv
  have HG := Lib.hid hg; clear hg
  go_enter Tryd.func5, Tryd.ntmps5
  go_wp2_with fail
  refine (flown_any _).mono ?_
  rintro e w0 ⟨rfl, hf0⟩
  have HF0 := Lib.hid hf0; clear hf0
  go_wp2_with fail
  refine (flight_new _ n).mono ?_
  rintro e w1 ⟨hf1, ⟨hok, p, g, rfl, hp, hg, hP⟩ | ⟨hno, rfl⟩⟩
  · have HF1 := Lib.hid (HF0.out.trans hf1 (S := []) (by simp)); clear hf1
    have hs0 := HF0.out.size
    unfold FOk at hok
    obtain ⟨N, rfl⟩ : ∃ N : Nat, n = (N : Int) := ⟨n.toNat, by omega⟩
    simp only [Int.toNat_natCast] at hP
    have hN : 1 ≤ N ∧ N ≤ 1000 := by omega
    clear hok
    have hpw : w.heap.size ≤ p ∧ w.heap.size ≤ g := by omega
    have hpg : ∀ x ∈ [p, g], x ∈ ([] : List Nat) ∨ w.heap.size ≤ x := fun x hx => by simp at hx; right; omega
    have HPG := Lib.hid hpg; clear hpg hp hg hs0
    by_cases hm : 100 < m
    · clear hP
      go_wp2
      go_ret
      exact ⟨rfl, HF1.out⟩
    have HP := Lib.hid hP; clear hP
    have d1 : decide (100 < (m : Int)) = false := by simp; omega
    have d2 : decide (100 < m) = false := by simp; omega
    go_wp2
    clear d1 d2
    go_loopw [8, 9] (fun v i wr => ∃ (k : Nat) (pb : Nat → Nat), k ≤ m ∧ k ≤ N ∧ i = .int .i64 k ∧ OwnF wr w.heap.size 3 v k (fun j => .int .i64 j) ∧ Fly wr p g N pb (opn ids k) k ∧ Fr [] w wr) (fun _ i _ => m - (intOf i).toNat)
    case atStart => exact ⟨0, _, by omega, by omega, rfl, OwnF.nil _ _ _ _, HP.out, HF1.out⟩
    case round =>
      obtain ⟨k, pb, hk, hkN, rfl, ho, hP, hf⟩ := hrel
      have HO := Lib.hid ho; clear ho
      have HPk := Lib.hid hP; clear hP
      have HF := Lib.hid hf; clear hf
      by_cases hlt : k < m
      · obtain ⟨b1, o1, c1, he1, _, _, _, hc1⟩ := HV.out.shape (by omega)
        simp only [Value.slice.injEq, true_and] at he1
        obtain ⟨rfl, rfl⟩ := he1
        have K1 := Lib.hid (hc1 k hlt)
        have k1 := HF.out.cell K1.out (by simp)
        clear hc1
        have k0 : (0 : Int) ≤ (k : Int) := by omega
        have k3 : (k : Int) < (m : Int) := by omega
        go_wp2_with fail
        refine (flight_open _ HPk.out (by omega) (by omega) k (ids k)).mono ?_
        rintro e w2 (⟨hlN, rfl, ⟨b2, hP2⟩, hf2⟩ | ⟨hfull, rfl, rfl⟩)
        · have hkl : k < N := by
            by_cases h : k < N
            · exact h
            · have : k = N := by omega
              subst this
              rw [opn_full] at hlN
              omega
          rw [opn_free ids k N hkl] at hP2 ⊢
          rw [opn_next] at hP2
          have HP2 := Lib.hid hP2; clear hP2 hlN
          obtain ⟨va, vc, hva⟩ := HO.out.rd.slice
          subst hva
          have HO2 := Lib.hid (HO.out.kept hf2 (own_apart HPk.out HO.out))
          have HF2 := Lib.hid (HF.out.trans hf2 HPG.out); clear hf2 k1
          have hsz2 := HF2.out.size
          go_wp2
          go_loopw [13] (fun i wx => ∃ q : Nat, q ≤ k ∧ i = .int .i64 q ∧ wx = w2) (fun i _ => k - (intOf i).toNat)
          case atStart => exact ⟨0, by omega, rfl, rfl⟩
          case round =>
            obtain ⟨q, hq, rfl, rfl⟩ := hrel
            by_cases hlt2 : q < k
            · obtain ⟨b3, o3, c3, he3, _, _, _, hc3⟩ := HO2.out.rd.shape (by omega)
              simp only [Value.slice.injEq, true_and] at he3
              obtain ⟨rfl, rfl⟩ := he3
              have x1 := hc3 q hlt2
              clear hc3
              have q0 : (0 : Int) ≤ (q : Int) := by omega
              have q3 : (q : Int) < (k : Int) := by omega
              have hne : ((q : Int) == (k : Int)) = false := by simp; omega
              have hne2 : ¬ q = k := by omega
              go_wp2
              go_roundw
              case rel => exact ⟨q + 1, by omega, by go_num, by trivial⟩
              case measure => simp [intOf]; omega
            · obtain rfl : q = k := by omega
              go_wp2_with (at_builtin; refine wpList_app rfl (.tmp 86) (.tmp 88) 22 rfl 3 infoInt Tryd.underlying22 rfl (HO2.out.alloc _) rfl (rd_one _ _ _ (by simp)) rfl (fun _ _ => rfl) (by unfold maxLen; omega) (by omega) (by simp; omega) ?_; intro v4 w4 ho4 hf4 hn4)
              have HO4 := Lib.hid (ho4.congr (f' := fun j => .int .i64 (j : Nat)) (fun j hj => by
                unfold app
                by_cases h4 : j < q
                · rw [if_pos h4]
                · obtain rfl : j = q := by omega
                  rw [if_neg h4]))
              have HF4 := Lib.hid (HF2.out.app _ hf4 HO2.out.ge)
              have HP4 := Lib.hid (show Fly w4 p g N _ (opn ids (q + 1)) ((q : Int) + 1) from (HP2.out.kept ((Fr.refl [] _).alloc (.cells #[.int .i64 (q : Int)] 3))).appd (HO2.out.alloc (.cells #[.int .i64 (q : Int)] 3)) hf4)
              clear ho4 hf4 hn4
              go_wp2
              go_roundw
              case rel => exact ⟨q + 1, _, by omega, by omega, by go_num, HO4.out, HP4.out, HF4.out⟩
              case measure => simp [intOf]; omega
        · have hkN2 : k = N := by
            by_cases h : k < N
            · rw [opn_free ids k N h] at hfull; omega
            · omega
          subst hkN2
          clear hfull
          have HFQ := Lib.hid HF.out
          go_wp2_with fail
          refine (error_any _ (some 7) 7 (HG.out.fr HF.out (by simp))).mono ?_
          rintro e w3 ⟨rfl, hf3⟩
          rw [show decide (numOf (some 7) = 7) = true from rfl]
          have HF3 := Lib.hid (HF.out.trans hf3 (by simp)); clear hf3 k1
          obtain ⟨va, vc, hva⟩ := HO.out.rd.slice
          subst hva
          go_wp2
          go_ret
          exact ⟨by simp, HF3.out⟩
      · obtain rfl : k = m := by omega
        obtain ⟨va, vc, hva⟩ := HO.out.rd.slice
        subst hva
        clear hlt
        go_wp2
        go_loopw [14] (fun i wx => ∃ (t : Nat) (pb : Nat → Nat), t ≤ k ∧ i = .int .i64 ((t : Int) - 1) ∧ OwnF wx w.heap.size 3 (.slice va k vc) k (fun j => .int .i64 j) ∧ Fly wx p g N pb (opn ids t) t ∧ Fr [] w wx) (fun i _ => (intOf i + 1).toNat)
        case atStart => exact ⟨k, pb, by omega, rfl, HO.out, HPk.out, HF.out⟩
        case round =>
          obtain ⟨t, pb, ht, rfl, ho, hP, hf⟩ := hrel
          clear HO HPk HF
          have HO := Lib.hid ho; clear ho
          have HPk := Lib.hid hP; clear hP
          have HF := Lib.hid hf; clear hf
          by_cases ht0 : t = 0
          · subst ht0
            go_wp2_with fail
            refine (flight_busy _ HPk.out).mono ?_
            rintro e w2 ⟨rfl, rfl⟩
            go_wp2
            go_ret
            exact ⟨rfl, HF.out⟩
          · obtain ⟨q, rfl⟩ : ∃ q, t = q + 1 := ⟨t - 1, by omega⟩
            have hqi : ((q + 1 : Nat) : Int) - 1 = (q : Int) := by omega
            rw [hqi]
            obtain ⟨b1, o1, c1, he1, _, _, _, hc1⟩ := HV.out.shape (by omega)
            simp only [Value.slice.injEq, true_and] at he1
            obtain ⟨rfl, rfl⟩ := he1
            have K1 := Lib.hid (hc1 q (by omega))
            obtain ⟨b3, o3, c3, he3, _, _, _, hc3⟩ := HO.out.rd.shape (by omega)
            simp only [Value.slice.injEq, true_and] at he3
            obtain ⟨rfl, rfl⟩ := he3
            have x1 := hc3 q (by omega)
            clear hc1 hc3 hqi ht0
            have q0 : (0 : Int) ≤ (q : Int) := by omega
            have q3 : (q : Int) < (k : Int) := by omega
            go_wp2_with fail
            refine (flight_close _ HPk.out (by omega) (by omega) q (by omega) q (ids q) (by unfold opn; rw [if_pos (by omega)])).mono ?_
            rintro e w2 ⟨rfl, ⟨b2, hP2⟩, hf2⟩
            rw [opn_back] at hP2
            have HP2 := Lib.hid hP2; clear hP2
            have HO2 := Lib.hid (HO.out.kept hf2 (own_apart HPk.out HO.out))
            have HF2 := Lib.hid (HF.out.trans hf2 HPG.out); clear hf2 x1
            obtain ⟨b4, o4, c4, he4, _, _, _, hc4⟩ := HO2.out.rd.shape (by omega)
            simp only [Value.slice.injEq, true_and, Option.some.injEq, Addr.mk.injEq, and_true] at he4
            obtain ⟨⟨rfl, rfl⟩, rfl⟩ := he4
            have x2 := hc4 q (by omega)
            clear hc4
            go_wp2_with fail
            refine (flight_close_none _ HP2.out (by omega) q (by omega) (by unfold opn; rw [if_neg (by omega)])).mono ?_
            rintro e w3 ⟨rfl, rfl⟩
            go_wp2_with fail
            refine (error_any _ (some 9) 9 (HG.out.fr HF2.out (by simp))).mono ?_
            rintro e w4 ⟨rfl, hf4⟩
            rw [show decide (numOf (some 9) = 9) = true from rfl]
            have HP4 := Lib.hid (HP2.out.kept hf4)
            have HO4 := Lib.hid (HO2.out.kept hf4 (by simp))
            have HF4 := Lib.hid (HF2.out.trans hf4 (by simp)); clear hf4 x2
            have k1 := HF4.out.cell K1.out (by simp)
            have hee : ((q : Int) == (q : Int)) = true := by simp
            have HBU := Lib.hid (show ((q + 1 : Nat) : Int) - 1 = (q : Int) by omega)
            go_wp2
            go_roundw
            case rel => exact ⟨q, _, by omega, by go_num, HO4.out, by rw [← HBU.out]; exact HP4.out, HF4.out⟩
            case measure => simp [intOf]
  · have HF1 := Lib.hid (HF0.out.trans hf1 (S := []) (by simp)); clear hf1
    go_wp2
    go_ret
    exact ⟨rfl, HF1.out⟩

end Go.Proofs.YthopnlnknicgbaaDoor
