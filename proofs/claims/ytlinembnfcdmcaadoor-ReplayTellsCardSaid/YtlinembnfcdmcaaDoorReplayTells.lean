/- ReplayTells: the walk. -/
import Derived.Test.YtlinembnfcdmcaaDoorReplay
import Derived.Test.YtlinembnfcdmcaaDoorDoor
namespace Go.Proofs.YtlinembnfcdmcaaDoor
open Go.RowKit

/-- a number that is not too late -/
def inw (n : Nat) (top k : Int) : Bool := decide (0 ≤ k ∧ ¬ (k < top ∧ (n : Int) ≤ top - k))

/-- is it one of the first k? -/
def hasq (q : Nat → Int) (z : Int) : Nat → Bool
  | 0 => false
  | k + 1 => hasq q z k || (q k == z)

theorem hasq_iff (q : Nat → Int) (z : Int) (k : Nat) : hasq q z k = true ↔ ∃ t, t < k ∧ q t = z := by
  induction k with
  | zero => simp [hasq]
  | succ k ih =>
    simp only [hasq, Bool.or_eq_true, ih, beq_iff_eq]
    constructor
    · rintro (⟨t, ht, e⟩ | e)
      · exact ⟨t, by omega, e⟩
      · exact ⟨k, by omega, e⟩
    · rintro ⟨t, ht, e⟩
      by_cases h : t = k
      · subst h; exact .inr e
      · exact .inl ⟨t, by omega, e⟩

set_option maxHeartbeats 1000000 in
theorem seen_any (w : World) : Calls Tryd.prog 9 #[] w fun e w' => e = .returned (.bool true) ∧ Fr [] w w' := by
  go_enter Tryd.func9, Tryd.ntmps9
  go_wp2_with fail
  refine (replay_new _ 4).mono ?_
  rintro e w1 ⟨hf1, ⟨_, p, g, rfl, hp, hg, hP⟩ | ⟨hno, _⟩⟩
  · have hP1 : Win w1 p g 4 (fun _ => -1) (-1) := hP
    clear hP
    go_wp2_with fail
    refine (replay_see _ hP1 (by omega) 5 (by omega) (by omega)).mono ?_
    rintro e w2 (⟨hbad, _⟩ | ⟨_, rfl, hP2, hf2⟩)
    · simp at hbad
    · have HF2 := Lib.hid (hf1.trans hf2 (S := []) (by simp; omega)); clear hf2
      have hP3 : Win w2 p g 4 (fun j => if j = 1 then 5 else -1) 5 := hP2
      clear hP2
      go_wp2_with fail
      refine (replay_see _ hP3 (by omega) 5 (by omega) (by omega)).mono ?_
      rintro e w3 (⟨_, rfl, rfl⟩ | ⟨hbad, _⟩)
      · go_wp2_with fail
        refine (replay_top _ hP3).mono ?_
        rintro e w4 ⟨rfl, rfl⟩
        go_wp2
        go_ret
        exact ⟨rfl, HF2.out⟩
      · simp at hbad
  · exact absurd (by unfold WOk; omega) hno

set_option maxRecDepth 100000 in
set_option maxHeartbeats 4000000 in
theorem replayTells_any (w : World) (hg : Hand w) (n : Int) (a : Option Addr) (m c : Nat) (ks : Nat → Int) (hv : RdF w (.slice a m c) m (fun j => .int .i64 (ks j))) (hb : ∀ j, j < m → ks j ≤ 9223372036854775807) :
    Calls Tryd.prog 3 #[.int .i64 n, .slice a m c] w fun e w' => e = .returned (.bool true) ∧ Fr [] w w' := by
  have HV := Lib.hid hv; clear hv
  have HG := Lib.hid hg; clear hg
  have HBD := Lib.hid hb; clear hb
  go_enter Tryd.func3, Tryd.ntmps3
  go_wp2_with fail
  refine (seen_any _).mono ?_
  rintro e w0 ⟨rfl, hf0⟩
  have HF0 := Lib.hid hf0; clear hf0
  go_wp2_with fail
  refine (replay_new _ n).mono ?_
  rintro e w1 ⟨hf1, ⟨hok, p, g, rfl, hp, hg, hP⟩ | ⟨hno, rfl⟩⟩
  · have hs0 := HF0.out.size
    have HF1 := Lib.hid (HF0.out.trans hf1 (S := []) (by simp)); clear hf1
    unfold WOk at hok
    obtain ⟨N, rfl⟩ : ∃ N : Nat, n = (N : Int) := ⟨n.toNat, by omega⟩
    simp only [Int.toNat_natCast] at hP
    have hN : 1 ≤ N ∧ N ≤ 1000 := by omega
    clear hok
    have hpw : w.heap.size ≤ p ∧ w.heap.size ≤ g := by omega
    have hpl := lt_of_blk hP.blk
    have hgl := hP.row.lt
    have hs1 := HF1.out.size
    clear hp hg hs0
    have HP := Lib.hid hP; clear hP
    by_cases hm : 80 < m
    · go_wp2
      go_ret
      exact ⟨rfl, HF1.out⟩
    go_wp2
    go_loopw [9, 10, 11] (fun tv v i wr => ∃ (t : Nat) (f : Nat → Int) (tp : Int) (c : Nat) (q : Nat → Int), t ≤ m ∧ i = .int .i64 t ∧ tv = .int .i64 tp ∧ c ≤ t ∧ (-1 ≤ tp ∧ tp ≤ 9223372036854775807) ∧ Hid (Ring1 N f tp c q) ∧
      OwnF wr w1.heap.size 3 v c (fun j => .int .i64 (q j)) ∧ Win wr p g N f tp ∧ Fr [] w wr ∧ w1.heap.size ≤ wr.heap.size) (fun _ _ i _ => m - (intOf i).toNat)
    case atStart => exact ⟨0, _, -1, 0, fun _ => 0, by omega, rfl, rfl, by omega, by omega, Lib.hid (Ring1.start N _), OwnF.nil _ _ _ _, HP.out, HF1.out, Nat.le_refl _⟩
    case round =>
      clear HP
      obtain ⟨t, f, tp, c', q, ht, rfl, rfl, hct, htp, HI, ho, hP, hf, hsz⟩ := hrel
      have HO := Lib.hid ho
      have HP := Lib.hid hP; clear hP
      have HF := Lib.hid hf; clear hf
      by_cases hlt : t < m
      · obtain ⟨b1, o1, c1, he1, _, _, _, hc1⟩ := HV.out.shape (by omega)
        simp only [Value.slice.injEq, true_and] at he1
        obtain ⟨rfl, rfl⟩ := he1
        have K1 := Lib.hid (hc1 t hlt)
        have k1 := HF.out.cell K1.out (by simp)
        clear hc1
        have hzb := HBD.out t hlt
        obtain ⟨z, hz⟩ : ∃ z, z = ks t := ⟨_, rfl⟩
        rw [← hz] at k1 hzb
        clear hz K1
        obtain ⟨av, cv, hav⟩ := ho.rd.slice
        subst hav
        clear ho
        have k0 : (0 : Int) ≤ (t : Int) := by omega
        have k3 : (t : Int) < (m : Int) := by omega
        go_upto_region 16 with fail
        go_cut [13] (fun v wx => v = .bool (inw N tp z) ∧ wx = wr)
        case first =>
          by_cases h0 : z < 0
          · have e : inw N tp z = false := by simp [inw]; omega
            have E := Lib.hid e; clear e
            go_wp2_with fail
            go_meet
            exact ⟨by rw [E.out], rfl⟩
          · by_cases h1 : tp < z
            · have e : inw N tp z = true := by simp [inw]; omega
              have E := Lib.hid e; clear e
              go_wp2_with fail
              go_meet
              exact ⟨by rw [E.out], rfl⟩
            · by_cases h2 : tp - z < N
              · have e : inw N tp z = true := by simp [inw]; omega
                have E := Lib.hid e; clear e
                go_wp2_with fail
                go_meet
                exact ⟨by rw [E.out], rfl⟩
              · have e : inw N tp z = false := by simp [inw]; omega
                have E := Lib.hid e; clear e
                go_wp2_with fail
                go_meet
                exact ⟨by rw [E.out], rfl⟩
        case rest =>
          obtain ⟨rfl, hwc⟩ := hcut
          replace hwc := hwc.symm
          subst hwc
          clear k1
          obtain ⟨b0, hb0⟩ : ∃ b0, inw N tp z = b0 := ⟨_, rfl⟩
          rw [hb0]
          have HB0 := Lib.hid hb0; clear hb0
          go_wp2
          go_loopw [13, 14] (fun b j wx => ∃ k : Nat, k ≤ c' ∧ j = .int .i64 k ∧ b = .bool (b0 && !hasq q z k) ∧ wx = wr) (fun _ j _ => c' - (intOf j).toNat)
          case atStart => exact ⟨0, by omega, rfl, by simp [hasq], rfl⟩
          case round =>
            obtain ⟨k, hk, rfl, rfl, hwx⟩ := hrel
            replace hwx := hwx.symm
            subst hwx
            by_cases hlt2 : k < c'
            · obtain ⟨b2, o2, c2, he2, _, _, _, hc2⟩ := HO.out.rd.shape (by omega)
              simp only [Value.slice.injEq, true_and] at he2
              obtain ⟨rfl, rfl⟩ := he2
              have x1 := hc2 k hlt2
              clear hc2
              have j0 : (0 : Int) ≤ (k : Int) := by omega
              have j3 : (k : Int) < (c' : Int) := by omega
              by_cases heq : q k = z
              · have e : hasq q z (k + 1) = true := by simp [hasq, heq]
                have E := Lib.hid e; clear e
                rw [heq] at x1
                clear heq
                go_wp2
                go_roundw
                case rel => exact ⟨k + 1, by omega, by go_num, by rw [E.out]; simp, by trivial⟩
                case measure => simp [intOf]; omega
              · have hne : (q k == z) = false := by simpa using heq
                have e : hasq q z (k + 1) = hasq q z k := by simp [hasq, hne]
                have E := Lib.hid e; clear e
                go_wp2
                go_roundw
                case rel => exact ⟨k + 1, by omega, by go_num, by rw [E.out], by trivial⟩
                case measure => simp [intOf]; omega
            · obtain rfl : k = c' := by omega
              obtain ⟨bb, hbb⟩ : ∃ bb, (b0 && !hasq q z k) = bb := ⟨_, rfl⟩
              rw [hbb]
              cases bb with
              | true =>
                simp only [Bool.and_eq_true, Bool.not_eq_true'] at hbb
                obtain ⟨rfl, hq⟩ := hbb
                have hin := HB0.out
                simp only [inw, decide_eq_true_eq] at hin
                obtain ⟨K, rfl⟩ : ∃ K : Nat, z = (K : Int) := ⟨z.toNat, by omega⟩
                have hnot : ¬ ∃ x, x < k ∧ q x = (K : Int) := fun hx => by
                  rw [(hasq_iff q (K : Int) k).2 hx] at hq; cases hq
                have hfk : f (K % N) ≠ K := fun he => hnot ((HI.out.mem (by omega) K hin.2).1 he)
                have HFK := Lib.hid hfk
                have HIN := Lib.hid hin.2
                have hi2 := HI.out.take (by omega) K hin.2
                clear hq hnot hfk hin HB0
                have hT : (tp < (K : Int) ∧ max tp (K : Int) = K) ∨ (¬ tp < (K : Int) ∧ max tp (K : Int) = tp) := by omega
                rcases hT with ⟨hmx, hT⟩ | ⟨hmx, hT⟩
                all_goals
                  rw [hT] at hi2
                  have HI2 := Lib.hid hi2
                  have HMT := Lib.hid hT
                  clear hi2 hT
                  have hml : k + 1 ≤ maxLen := by unfold maxLen; omega
                  go_wp2_with (at_builtin; refine wpList_app rfl (.tmp 87) (.tmp 89) 22 rfl 3 infoInt Tryd.underlying22 rfl (HO.out.alloc _) rfl (rd_one _ _ _ (by simp)) rfl (fun _ _ => rfl) hml (by omega) (by simp; omega) ?_; intro v4 w4 ho4 hf4 hn4; obtain ⟨av4, cv4, hav4⟩ := ho4.rd.slice; subst hav4)
                  have hsz4 := hf4.size
                  simp only [World.size_alloc] at hsz4
                  have hown := HO.out.ge
                  have hf4' : Fr [] w w4 := (HF.out.alloc _).trans hf4 (fun x hx => .inr (by have := hown x hx; omega))
                  have HF4 := Lib.hid hf4'
                  have HP4 := Lib.hid ((HP.out.kept ((Fr.refl [] wr).alloc _) (by simp)).kept hf4 ⟨fun hx => by have := hown _ hx; omega, fun hx => by have := hown _ hx; omega⟩)
                  have HO4 := Lib.hid (ho4.congr (f' := fun j => .int .i64 (if j = k then (K : Int) else q j)) (fun j hj => by
                    unfold app
                    by_cases hjk : j = k
                    · subst hjk; simp
                    · rw [if_pos (by omega), if_neg hjk]))
                  clear hf4 hf4' hn4 ho4
                  go_wp2_with fail
                  refine (replay_see _ HP4.out (by omega) K HIN.out (by omega)).mono ?_
                  rintro e w5 (⟨hbad, _⟩ | ⟨_, rfl, hP5, hf5⟩)
                  · exact absurd hbad HFK.out
                  · rw [HMT.out] at hP5
                    have HP5 := Lib.hid hP5
                    have hs5 := hf5.size
                    have HF5 := Lib.hid (HF4.out.trans hf5 (fun x hx => .inr (by simp at hx; omega)))
                    have HO5 := Lib.hid (HO4.out.kept hf5 (fun x hx hm => by
                      have := HO4.out.ge x (by rw [hx]; simp)
                      simp at hm; omega))
                    clear hP5 hf5
                    go_wp2_with fail
                    refine (replay_top _ HP5.out).mono ?_
                    rintro e w6 ⟨rfl, rfl⟩
                    go_wp2
                    go_roundw
                    case rel => exact ⟨t + 1, _, _, k + 1, _, by omega, by go_num, rfl, by omega, by omega, HI2, HO5.out, HP5.out, HF5.out, by omega⟩
                    case measure => simp [intOf]; omega
              | false =>
                have hsee : Calls Tryd.prog 12 #[.pointer (some ⟨p, 0, none⟩), .int .i64 z] wr fun e w' => e = .returned (.bool false) ∧ w' = wr := by
                  by_cases hin : 0 ≤ z ∧ ¬ (z < tp ∧ (N : Int) ≤ tp - z)
                  · have hb1 : b0 = true := by rw [← HB0.out]; simp only [inw, decide_eq_true_eq]; exact hin
                    subst hb1
                    simp only [Bool.true_and, Bool.not_eq_false'] at hbb
                    obtain ⟨K, rfl⟩ : ∃ K : Nat, z = (K : Int) := ⟨z.toNat, by omega⟩
                    have hfk := (HI.out.mem (by omega) K hin.2).2 ((hasq_iff q _ k).1 hbb)
                    refine (replay_see _ HP.out (by omega) K hin.2 (by omega)).mono ?_
                    rintro e w' (⟨_, h1, h2⟩ | ⟨hbad, _⟩)
                    · exact ⟨h1, h2⟩
                    · exact absurd hfk hbad
                  · exact replay_late _ HP.out (by omega) z (by omega) (by omega)
                have HSEE := Lib.hid hsee
                clear hsee hbb HB0
                go_wp2_with fail
                refine HSEE.out.mono ?_
                rintro e w5 ⟨rfl, rfl⟩
                go_wp2_with fail
                refine (replay_top _ HP.out).mono ?_
                rintro e w6 ⟨rfl, rfl⟩
                have hmm : (tp == tp) = true := by simp
                go_wp2
                go_roundw
                case rel => exact ⟨t + 1, _, _, k, _, by omega, by go_num, rfl, by omega, by omega, HI, HO.out, HP.out, HF.out, by omega⟩
                case measure => simp [intOf]; omega
      · obtain rfl : t = m := by omega
        go_wp2
        go_ret
        exact ⟨rfl, HF.out⟩
  · have HF1 := Lib.hid (HF0.out.trans hf1 (S := []) (by simp)); clear hf1
    have HNO := Lib.hid hno
    unfold WOk at hno
    have hc : n < 1 ∨ (1 ≤ n ∧ 1000 < n) := by omega
    clear hno
    rcases hc with h1 | ⟨h1, h2⟩
    all_goals
      go_wp2_with fail
      refine (error_any _ (some 6) 6 (HG.out.fr HF1.out (by simp))).mono ?_
      rintro e w2 ⟨rfl, hf2⟩
      rw [show decide (numOf (some 6) = 6) = true from rfl]
      have HF2 := Lib.hid (HF1.out.trans hf2 (by simp)); clear hf2
      go_wp2
      go_ret
      exact ⟨rfl, HF2.out⟩

end Go.Proofs.YtlinembnfcdmcaaDoor
