/- The reference's Names. -/
import Derived.Test.YtkdmkpdooiacaaaDoorZbase1
namespace Go.Proofs.YtkdmkpdooiacaaaDoor
open Go.RowKit

theorem alkAll {s t : Nat → ByteArray} {n : Nat} (h : ∀ j, j < n → alk (s j) (t j) = true) : alkUpTo s t n = true := by
  induction n with
  | zero => rfl
  | succ n ih => simp only [alkUpTo]; rw [ih (fun j hj => h j (by omega)), h n (by omega)]; rfl

theorem numb_any (w : World) (n m : Nat) : Calls Tryd.prog 65 #[.int .i64 n, .int .i64 m] w fun e w' => ∃ x : Int, e = .returned (.int .i64 x) ∧ (x = 0 ↔ n = m) ∧ Fr [] w w' := by
  go_enter Tryd.func65, Tryd.ntmps65
  by_cases h1 : n < m
  · have HA := Lib.hid (show n ≠ m by omega)
    go_wp2
    go_ret
    exact ⟨-1, rfl, ⟨fun h => absurd h (by decide), fun h => absurd h HA.out⟩, Fr.refl _ _⟩
  · by_cases h2 : m < n
    · have HA := Lib.hid (show n ≠ m by omega)
      go_wp2
      go_ret
      exact ⟨1, rfl, ⟨fun h => absurd h (by decide), fun h => absurd h HA.out⟩, Fr.refl _ _⟩
    · have HA := Lib.hid (show n = m by omega)
      go_wp2
      go_ret
      exact ⟨0, rfl, ⟨fun _ => HA.out, fun _ => rfl⟩, Fr.refl _ _⟩

/-- which one is ahead; 0 where they are one -/
def NmPost (w : World) (n m : Nat) (s t : Nat → ByteArray) : Ending → World → Prop := fun e w' => ∃ x : Int, e = .returned (.int .i64 x) ∧ (x = 0 ↔ nmEq n m s t = true) ∧ Fr [] w w'

set_option maxHeartbeats 4000000 in
set_option maxRecDepth 100000 in
theorem namesRef_any (w : World) (a b : Option Addr) (n m c d : Nat) (s t : Nat → ByteArray) (hs : RdF w (.slice a n c) n (fun j => .string (s j))) (ht : RdF w (.slice b m d) m (fun j => .string (t j)))
    (hss : ∀ j, j < n → (s j).size ≤ 140737488355328) (hts : ∀ j, j < m → (t j).size ≤ 140737488355328) (hm : m ≤ 140737488355328) :
    Calls Tryd.prog 46 #[.slice a n c, .slice b m d] w (NmPost w n m s t) := by
  have hbn := hs.le_cap
  have hbm := ht.le_cap
  unfold maxLen at hbn hbm
  have HS := Lib.hid hs; clear hs
  have HT := Lib.hid ht; clear ht
  have HSS := Lib.hid hss; clear hss
  have HTS := Lib.hid hts; clear hts
  go_enter Tryd.func46, Tryd.ntmps46
  unfold NmPost
  go_wp2
  go_loopw [5] (fun vi wr => ∃ k : Nat, k ≤ n ∧ k ≤ m ∧ vi = .int .i64 ((k : Int) + 1) ∧ (∀ j, j < k → alk (s (n - (j + 1))) (t (m - (j + 1))) = true) ∧ Fr [] w wr) (fun vi _ => n + 1 - (intOf vi).toNat)
  case atStart => exact ⟨0, by omega, by omega, rfl, fun j hj1 => by omega, Fr.refl _ _⟩
  case round =>
    obtain ⟨k, hkn, hk, rfl, hal, hf⟩ := hrel
    have HAL := Lib.hid hal; clear hal
    have HF := Lib.hid hf; clear hf
    by_cases hlt : k < n ∧ k < m
    · obtain ⟨b1, o1, c1, he1, _, _, _, hc1⟩ := (HS.out.fr HF.out (by simp)).shape (by omega)
      obtain ⟨b2, o2, c2, he2, _, _, _, hc2⟩ := (HT.out.fr HF.out (by simp)).shape (by omega)
      simp only [Value.slice.injEq, true_and] at he1 he2
      obtain ⟨rfl, rfl⟩ := he1
      obtain ⟨rfl, rfl⟩ := he2
      have x0 := hc1 (n - (k + 1)) (by omega)
      have x1 := hc2 (m - (k + 1)) (by omega)
      clear hc1 hc2
      have hs1 := HSS.out (n - (k + 1)) (by omega)
      have ht1 := HTS.out (m - (k + 1)) (by omega)
      have HNEW := Lib.hid (fun (h : alk (s (n - (k + 1))) (t (m - (k + 1))) = true) => show ∀ j, j < k + 1 → alk (s (n - (j + 1))) (t (m - (j + 1))) = true from fun j h1 => by
        by_cases e : j = k
        · rw [e]; exact h
        · exact HAL.out j (by omega))
      have HBAD := Lib.hid (fun (h : alk (s (n - (k + 1))) (t (m - (k + 1))) = false) => show nmEq n m s t = false from by
        unfold nmEq
        by_cases e : n = m
        · rw [alkUpTo_false (k := n - (k + 1)) (by omega) (by rw [show n - (k + 1) = m - (k + 1) by omega] at h ⊢; exact h), Bool.and_false]
        · rw [decide_eq_false e, Bool.false_and])
      have e1 : (n : Int) - ((k : Int) + 1) = ((n - (k + 1) : Nat) : Int) := by omega
      have e2 : (m : Int) - ((k : Int) + 1) = ((m - (k + 1) : Nat) : Int) := by omega
      have w1 : IntKind.i64.wrap ((n - (k + 1) : Nat) : Int) = ((n - (k + 1) : Nat) : Int) := IntWalk.i64_in _ (by omega)
      have w2 : IntKind.i64.wrap ((m - (k + 1) : Nat) : Int) = ((m - (k + 1) : Nat) : Int) := IntWalk.i64_in _ (by omega)
      have p0 : n - (k + 1) < n := by omega
      have p1 : m - (k + 1) < m := by omega
      have HCL := Lib.hid (fun (w : World) => labels_any w (s (n - (k + 1))) (t (m - (k + 1))) hs1 ht1)
      clear hs1 ht1
      generalize hA : alk (s (n - (k + 1))) (t (m - (k + 1))) = A at *
      have HA := Lib.hid hA; clear hA
      have HCL2 := Lib.hid (fun (w : World) => (HCL.out w).mono (R' := fun e w' => ∃ x : Int, e = .returned (.int .i64 x) ∧ (x = 0 ↔ A = true) ∧ Fr [] w w') (by
        rintro e w' ⟨x, he, hx, hf⟩
        refine ⟨x, he, by rw [← HA.out]; exact hx, hf⟩))
      clear HCL HA
      generalize s (n - (k + 1)) = sk at *
      generalize t (m - (k + 1)) = tk at *
      generalize n - (k + 1) = pn at *
      generalize m - (k + 1) = pm at *
      have hpm2 : pm + k + 1 ≤ m := by omega
      have q0 : (0 : Int) ≤ (pn : Int) := by omega
      have q1 : (0 : Int) ≤ (pm : Int) := by omega
      have q2 : (pn : Int) < (n : Int) := by omega
      have q3 : (pm : Int) < (m : Int) := by omega
      have hd2 : decide ((k : Int) + 1 ≤ (m : Int)) = true := by simp; omega
      have hd3 : (k : Int) + 1 ≤ (m : Int) := by omega
      have hd4 : decide ((k : Int) + 1 ≤ (n : Int)) = true := by simp; omega
      have hd5 : (k : Int) + 1 ≤ (n : Int) := by omega
      clear p0 p1
      go_upto_region 4 with fail
      go_cut [6] (fun v wx => ∃ x : Int, v = .int .i64 x ∧ (x = 0 ↔ A = true) ∧ Fr [] w wx)
      case first =>
        have HFD := Lib.hid (show Fr [] w wr.drew from HF.out.drew)
        go_region_held3 (fun w4 => (w4.cell? ⟨b1, o1 + pn, none⟩ = some (.string sk)) ∧ (w4.cell? ⟨b2, o2 + pm, none⟩ = some (.string tk)))
          (first | exact ⟨x0, x1⟩ | exact ⟨HY.out.1, HY.out.2⟩ | fail)
          (first
            | (go_at_call 64; (with_reducible refine (HCL2.out _).mono ?_); rintro e wx ⟨x, rfl, hx, hfx⟩; have HX := Lib.hid (HFD.out.trans hfx (by simp)); have HY := Lib.hid (And.intro (hfx.cell (p := ⟨b1, o1 + pn, none⟩) (v := .string sk) x0 (by simp)) (hfx.cell (p := ⟨b2, o2 + pm, none⟩) (v := .string tk) x1 (by simp))))
            | fail)
        all_goals (go_wp2_with fail; go_meet)
        all_goals exact ⟨_, rfl, hx, HX.out⟩
      case rest =>
        obtain ⟨x, rfl, hx, hfc⟩ := hcut
        have HFC := Lib.hid hfc
        clear hfc
        cases A
        · have HV := Lib.hid (HBAD.out rfl)
          have hx0 : (x != 0) = true := by
            have : x ≠ 0 := fun h => absurd (hx.1 h) (by decide)
            simpa using this
          have HX0 := Lib.hid (show x ≠ 0 from fun h => absurd (hx.1 h) (by decide))
          clear hx
          go_wp2
          go_ret
          exact ⟨x, rfl, ⟨fun h => absurd h HX0.out, fun h => by rw [HV.out] at h; cases h⟩, HFC.out⟩
        · have HV := Lib.hid (HNEW.out rfl)
          obtain rfl : x = 0 := hx.2 rfl
          clear HNEW HBAD e1 e2 w1 w2 hx
          go_wp2
          go_roundw
          case rel => exact ⟨k + 1, by omega, by omega, by go_num, HV.out, HFC.out⟩
          case measure => (simp [intOf] <;> omega)
    · have HE := Lib.hid (fun (h : n = m) => show nmEq n m s t = true from by
        unfold nmEq
        rw [decide_eq_true h, Bool.true_and]
        exact alkAll (fun j hj => by
          have h2 := HAL.out (n - (j + 1)) (by omega)
          rw [show n - (n - (j + 1) + 1) = j by omega, show m - (n - (j + 1) + 1) = j by omega] at h2
          exact h2))
      have HE2 := Lib.hid (fun (h : n ≠ m) => show nmEq n m s t = false from by unfold nmEq; rw [decide_eq_false h, Bool.false_and])
      by_cases h1 : k < n
      · have d1 : decide ((k : Int) + 1 ≤ (n : Int)) = true := by simp; omega
        have d2 : decide ((k : Int) + 1 ≤ (m : Int)) = false := by simp; omega
        go_wp2_with fail
        refine (numb_any _ n m).mono ?_
        rintro e wx ⟨x, rfl, hx, hfx⟩
        go_wp2_with fail
        go_ret
        refine ⟨x, rfl, ⟨fun h => HE.out (hx.1 h), fun h => hx.2 ?_⟩, HF.out.trans hfx (by simp)⟩
        by_cases e : n = m
        · exact e
        · rw [HE2.out e] at h; cases h
      · have d1 : decide ((k : Int) + 1 ≤ (n : Int)) = false := by simp; omega
        go_wp2_with fail
        refine (numb_any _ n m).mono ?_
        rintro e wx ⟨x, rfl, hx, hfx⟩
        go_wp2_with fail
        go_ret
        refine ⟨x, rfl, ⟨fun h => HE.out (hx.1 h), fun h => hx.2 ?_⟩, HF.out.trans hfx (by simp)⟩
        by_cases e : n = m
        · exact e
        · rw [HE2.out e] at h; cases h

end Go.Proofs.YtkdmkpdooiacaaaDoor
