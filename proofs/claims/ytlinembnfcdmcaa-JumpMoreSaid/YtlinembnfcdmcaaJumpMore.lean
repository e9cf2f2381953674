/- JumpMore: the plain law and the walk. -/
import Derived.Test.YtlinembnfcdmcaaJump
namespace Go.Proofs.Ytlinembnfcdmcaa
open Go.RowKit

/-- the last of a list that is below x; -1 if none is -/
def lastBelow (x : Int) : List Int → Int → Int
  | [], acc => acc
  | y :: l, acc => lastBelow x l (if y < x then y else acc)

theorem lastBelow_append (x : Int) (l r : List Int) (acc : Int) : lastBelow x (l ++ r) acc = lastBelow x r (lastBelow x l acc) := by
  induction l generalizing acc with
  | nil => rfl
  | cons y l ih => simp only [List.cons_append, lastBelow, ih]

theorem lb_low (kf : Nat → Int) (m : Nat) (x : Int) (k : Nat) (hk : 1 ≤ k) (hx : (k : Int) ≤ x) : lastBelow x (mvl kf m k) (-1) = pk kf m k := by
  induction k with
  | zero => omega
  | succ k ih =>
    by_cases h1 : 1 ≤ k
    · rw [pk_succ kf m k h1, mvl_succ kf m k h1]
      have := ih h1 (by omega)
      split
      · rw [lastBelow_append]; simp only [lastBelow]; rw [if_pos (by omega)]
      · exact this
    · obtain rfl : k = 0 := by omega
      show (if (0 : Int) < x then (0 : Int) else -1) = 0
      rw [if_pos (by omega)]

theorem lb_high (kf : Nat → Int) (m : Nat) (x : Nat) (hx : 1 ≤ x) (d : Nat) : lastBelow x (mvl kf m (x + d)) (-1) = pk kf m x := by
  induction d with
  | zero => exact lb_low kf m x x hx (Int.le_refl _)
  | succ d ih =>
    rw [show x + (d + 1) = (x + d) + 1 by omega, mvl_succ kf m (x + d) (by omega)]
    split
    · rw [lastBelow_append, ih]
      simp only [lastBelow]
      rw [if_neg (by omega)]
    · exact ih

theorem take_snoc_getD (l : List Int) (i : Nat) (hi : i < l.length) : l.take (i + 1) = l.take i ++ [l.getD i 0] := by
  rw [List.take_succ_eq_append_getElem hi]
  simp [List.getD, hi]

set_option maxRecDepth 100000 in
set_option maxHeartbeats 4000000 in
theorem jumpMore_any (w : World) (a : Option Addr) (m c : Nat) (kf : Nat → Int) (n less : Int) (hv : RdF w (.slice a m c) m (fun j => .int .u8 (kf j))) (hf : ∀ j, j < m → 0 ≤ kf j ∧ kf j ≤ 255) (hm : m ≤ 140737488351232)
    (hn : -9223372036854775808 ≤ n ∧ n ≤ 9223372036854775807) :
    Calls Try.prog 3 #[.slice a m c, .int .i64 n, .int .i64 less] w fun e w' => e = .returned (.bool true) ∧ Fr [] w w' := by
  have HV := Lib.hid hv; clear hv
  have HK := Lib.hid hf; clear hf
  go_enter Try.func3, Try.ntmps3
  go_wp2_with fail
  refine (jumped_any _).mono ?_
  rintro e w1 ⟨rfl, hf⟩
  have HF1 := Lib.hid hf
  have HV1 := Lib.hid (HV.out.fr hf (by simp)); clear hf
  go_wp2_with fail
  refine (pick_any _ a m c kf n HV1.out HK.out hm).mono ?_
  rintro e w2 ⟨hf, h2⟩
  have HF2 := Lib.hid (HF1.out.trans hf (by simp))
  have HV2 := Lib.hid (HV1.out.fr hf (by simp)); clear hf
  rcases h2 with ⟨hok, rfl⟩ | ⟨hno, rfl⟩
  · have hok' := hok
    unfold JOk at hok'
    have HOK := Lib.hid hok; clear hok
    have hA := pk_bd kf m n.toNat (by omega)
    have hB : pk kf m (n.toNat + 1) = n ∨ pk kf m (n.toNat + 1) = pk kf m n.toNat := by
      rw [pk_succ kf m n.toNat (by omega)]
      split
      · left; omega
      · right; rfl
    have HB := Lib.hid hB; clear hB
    have en : (n + 1).toNat = n.toNat + 1 := by omega
    have HEN := Lib.hid en; clear en
    go_wp2_with fail
    refine (pick_any _ a m c kf (n + 1) HV2.out HK.out hm).mono ?_
    rintro e w3 ⟨hf, h3⟩
    have HF3 := Lib.hid (HF2.out.trans hf (by simp))
    have HV3 := Lib.hid (HV2.out.fr hf (by simp)); clear hf
    rw [HEN.out] at h3
    generalize pk kf m n.toNat = A at *
    generalize pk kf m (n.toNat + 1) = B at *
    rcases h3 with ⟨hok3, rfl⟩ | ⟨hno3, rfl⟩
    · unfold JOk at hok3
      go_wp2_with fail
      refine (moves_any _ a m c kf n HV3.out HK.out hm).mono ?_
      rintro e w4 ⟨hf, h4⟩
      have HF4 := Lib.hid (HF3.out.trans hf (by simp))
      have HV4 := Lib.hid (HV3.out.fr hf (by simp)); clear hf
      rcases h4 with ⟨_, g, cp, rfl, hg, hr⟩ | ⟨hno4, _⟩
      · have HR := Lib.hid hr; clear hr
        have hla := (mvl_len kf m n.toNat).1
        have hll : (mvl kf m n.toNat).length ≤ 1000 := by omega
        clear hla
        have hd0 : decide (A < 0) = false := by simp; omega
        have hd1 : decide (n ≤ A) = false := by simp; omega
        have key : ∀ x : Bool, (B != A) = x → (B != A && B != n) = false := by
          intro x _
          rcases HB.out with h | h
          · simp [h]
          · simp [h]
        clear key
        by_cases hBA : B = A
        · have hq1 : (B != A) = false := by simp [hBA]
          clear hBA
          go_wp2_with fail
          refine (pick_any _ a m c kf less HV4.out HK.out hm).mono ?_
          rintro e w5 ⟨hf, h5⟩
          have HR5 := Lib.hid (HR.out.kept hf (by simp))
          have HF5 := Lib.hid (HF4.out.trans hf (by simp)); clear hf
          rcases h5 with ⟨hok5, rfl⟩ | ⟨hno5, rfl⟩
          · unfold JOk at hok5
            by_cases hln : n < less
            · go_wp2
              go_ret
              exact ⟨rfl, HF5.out⟩
            have hfin : lastBelow less (mvl kf m n.toNat) (-1) = pk kf m less.toNat := by
              have h := lb_high kf m less.toNat (by omega) (n.toNat - less.toNat)
              rw [show less.toNat + (n.toNat - less.toNat) = n.toNat by omega, show ((less.toNat : Nat) : Int) = less by omega] at h
              exact h
            have HFIN := Lib.hid hfin; clear hfin
            generalize pk kf m less.toNat = C at *
            generalize mvl kf m n.toNat = l at *
            go_wp2
            go_loop [16, 17] (fun s i => ∃ q : Nat, q ≤ l.length ∧ i = .int .i64 q ∧ s = .int .i64 (lastBelow less (l.take q) (-1))) (fun _ i => l.length - (intOf i).toNat)
            case atStart => exact ⟨0, by omega, rfl, rfl⟩
            case round =>
              obtain ⟨q, hq, rfl, rfl⟩ := hrel
              by_cases hqk : q < l.length
              · have hcq : w5.cell? ⟨g, q, none⟩ = some (.int .i64 (l.getD q 0)) := HR5.out.cell q hqk
                have hst : lastBelow less (l.take (q + 1)) (-1) = if l.getD q 0 < less then l.getD q 0 else lastBelow less (l.take q) (-1) := by
                  rw [take_snoc_getD l q hqk, lastBelow_append]; rfl
                have HST := Lib.hid hst; clear hst
                generalize l.getD q 0 = y at *
                by_cases hy : y < less
                · rw [if_pos hy] at HST
                  go_wp2
                  go_round
                  case rel => exact ⟨q + 1, by omega, by go_num, by rw [HST.out]⟩
                  case measure => simp [intOf]; omega
                · rw [if_neg hy] at HST
                  go_wp2
                  go_round
                  case rel => exact ⟨q + 1, by omega, by go_num, by rw [HST.out]⟩
                  case measure => simp [intOf]; omega
              · have hq2 : q = l.length := by omega
                have hs : lastBelow less (l.take q) (-1) = C := by rw [hq2, List.take_length]; exact HFIN.out
                clear hq2
                rw [hs]
                clear hs
                go_wp2
                go_ret
                exact ⟨by simp, HF5.out⟩
          · go_wp2
            go_ret
            exact ⟨rfl, HF5.out⟩
        · have hq0 : B = n := by rcases HB.out with h | h; exact h; exact absurd h hBA
          have hq1 : (B != A) = true := by simp [hBA]
          have hq2 : (B != n) = false := by simp [hq0]
          clear hq0
          clear hBA
          go_wp2_with fail
          refine (pick_any _ a m c kf less HV4.out HK.out hm).mono ?_
          rintro e w5 ⟨hf, h5⟩
          have HR5 := Lib.hid (HR.out.kept hf (by simp))
          have HF5 := Lib.hid (HF4.out.trans hf (by simp)); clear hf
          rcases h5 with ⟨hok5, rfl⟩ | ⟨hno5, rfl⟩
          · unfold JOk at hok5
            by_cases hln : n < less
            · go_wp2
              go_ret
              exact ⟨rfl, HF5.out⟩
            have hfin : lastBelow less (mvl kf m n.toNat) (-1) = pk kf m less.toNat := by
              have h := lb_high kf m less.toNat (by omega) (n.toNat - less.toNat)
              rw [show less.toNat + (n.toNat - less.toNat) = n.toNat by omega, show ((less.toNat : Nat) : Int) = less by omega] at h
              exact h
            have HFIN := Lib.hid hfin; clear hfin
            generalize pk kf m less.toNat = C at *
            generalize mvl kf m n.toNat = l at *
            go_wp2
            go_loop [16, 17] (fun s i => ∃ q : Nat, q ≤ l.length ∧ i = .int .i64 q ∧ s = .int .i64 (lastBelow less (l.take q) (-1))) (fun _ i => l.length - (intOf i).toNat)
            case atStart => exact ⟨0, by omega, rfl, rfl⟩
            case round =>
              obtain ⟨q, hq, rfl, rfl⟩ := hrel
              by_cases hqk : q < l.length
              · have hcq : w5.cell? ⟨g, q, none⟩ = some (.int .i64 (l.getD q 0)) := HR5.out.cell q hqk
                have hst : lastBelow less (l.take (q + 1)) (-1) = if l.getD q 0 < less then l.getD q 0 else lastBelow less (l.take q) (-1) := by
                  rw [take_snoc_getD l q hqk, lastBelow_append]; rfl
                have HST := Lib.hid hst; clear hst
                generalize l.getD q 0 = y at *
                by_cases hy : y < less
                · rw [if_pos hy] at HST
                  go_wp2
                  go_round
                  case rel => exact ⟨q + 1, by omega, by go_num, by rw [HST.out]⟩
                  case measure => simp [intOf]; omega
                · rw [if_neg hy] at HST
                  go_wp2
                  go_round
                  case rel => exact ⟨q + 1, by omega, by go_num, by rw [HST.out]⟩
                  case measure => simp [intOf]; omega
              · have hq2 : q = l.length := by omega
                have hs : lastBelow less (l.take q) (-1) = C := by rw [hq2, List.take_length]; exact HFIN.out
                clear hq2
                rw [hs]
                clear hs
                go_wp2
                go_ret
                exact ⟨by simp, HF5.out⟩
          · go_wp2
            go_ret
            exact ⟨rfl, HF5.out⟩
      · exact absurd HOK.out hno4
    · go_wp2_with fail
      refine (moves_any _ a m c kf n HV3.out HK.out hm).mono ?_
      rintro e w4 ⟨hf, h4⟩
      have HF4 := Lib.hid (HF3.out.trans hf (by simp)); clear hf
      rcases h4 with ⟨_, g, cp, rfl, hg, hr⟩ | ⟨hno4, _⟩
      · clear hr
        go_wp2
        go_ret
        exact ⟨rfl, HF4.out⟩
      · exact absurd HOK.out hno4
  · go_wp2_with fail
    refine (pick_any _ a m c kf (wrap64 (n + 1)) HV2.out HK.out hm).mono ?_
    rintro e w3 ⟨hf, h3⟩
    have HF3 := Lib.hid (HF2.out.trans hf (by simp))
    have HV3 := Lib.hid (HV2.out.fr hf (by simp)); clear hf
    have HNO := Lib.hid hno; clear hno
    rcases h3 with ⟨_, rfl⟩ | ⟨_, rfl⟩
    all_goals
      go_wp2_with fail
      refine (moves_any _ a m c kf n HV3.out HK.out hm).mono ?_
      rintro e w4 ⟨hf, h4⟩
      have HF4 := Lib.hid (HF3.out.trans hf (by simp)); clear hf
      rcases h4 with ⟨hok4, _⟩ | ⟨_, rfl⟩
      · exact absurd hok4 HNO.out
      · go_wp2
        go_ret
        exact ⟨rfl, HF4.out⟩

end Go.Proofs.Ytlinembnfcdmcaa
