/- The reference's Below. -/
import Derived.Test.YtgpfkaiinbncnaaDoorRefName
namespace Go.Proofs.YtgpfkaiinbncnaaDoor
open Go.RowKit

theorem alkUpTo_true {s t : Nat → ByteArray} {n : Nat} (h : ∀ j, j < n → alk (s j) (t j) = true) : alkUpTo s t n = true := by
  induction n with
  | zero => rfl
  | succ n ih => simp only [alkUpTo]; rw [ih (fun j hj => h j (by omega)), h n (by omega)]; rfl

set_option maxHeartbeats 4000000 in
set_option maxRecDepth 100000 in
theorem belowRef_any (w : World) (a b : Option Addr) (n m c d : Nat) (s t : Nat → ByteArray) (hs : RdF w (.slice a n c) n (fun j => .string (s j))) (ht : RdF w (.slice b m d) m (fun j => .string (t j)))
    (hss : ∀ j, j < n → (s j).size ≤ 140737488355328) (hts : ∀ j, j < m → (t j).size ≤ 140737488355328) (hm : m ≤ 140737488355328) :
    Calls Tryd.prog 76 #[.slice a n c, .slice b m d] w fun e w' => e = .returned (.bool (undr n m s t)) ∧ Fr [] w w' := by
  have hbn := hs.le_cap
  have hbm := ht.le_cap
  unfold maxLen at hbn hbm
  have HS := Lib.hid hs; clear hs
  have HT := Lib.hid ht; clear ht
  have HSS := Lib.hid hss; clear hss
  have HTS := Lib.hid hts; clear hts
  go_enter Tryd.func76, Tryd.ntmps76
  by_cases hmn : n < m
  · have HE := Lib.hid (show undr n m s t = false by unfold undr; rw [decide_eq_false (by omega), Bool.false_and])
    go_wp2
    go_ret
    exact ⟨by rw [HE.out]; rfl, Fr.refl _ _⟩
  have HE := Lib.hid (show undr n m s t = alkUpTo (fun j => s (n - m + j)) t m by unfold undr nmEq; rw [decide_eq_true (by omega), decide_eq_true rfl, Bool.true_and, Bool.true_and])
  have hmn2 : m ≤ n := by omega
  go_wp2
  go_loopw [5] (fun vi wr => ∃ k : Nat, k ≤ m ∧ vi = .int .i64 ((k : Int) + 1) ∧ (∀ j, m - k ≤ j → j < m → alk (s (n - m + j)) (t j) = true) ∧ Fr [] w wr) (fun vi _ => m + 1 - (intOf vi).toNat)
  case atStart => exact ⟨0, by omega, rfl, fun j hj1 hj2 => by omega, Fr.refl _ _⟩
  case round =>
    obtain ⟨k, hk, rfl, hal, hf⟩ := hrel
    have HAL := Lib.hid hal; clear hal
    have HF := Lib.hid hf; clear hf
    by_cases hlt : k < m
    · obtain ⟨b1, o1, c1, he1, _, _, _, hc1⟩ := (HS.out.fr HF.out (by simp)).shape (by omega)
      obtain ⟨b2, o2, c2, he2, _, _, _, hc2⟩ := (HT.out.fr HF.out (by simp)).shape (by omega)
      simp only [Value.slice.injEq, true_and] at he1 he2
      obtain ⟨rfl, rfl⟩ := he1
      obtain ⟨rfl, rfl⟩ := he2
      have x0 := hc1 (n - (k + 1)) (by omega)
      have x1 := hc2 (m - (k + 1)) (by omega)
      clear hc1 hc2
      have hs1 := HSS.out (n - (k + 1)) (by omega)
      have ht1 := HTS.out (m - (k + 1)) (by omega)
      have HNEW := Lib.hid (fun (h : alk (s (n - (k + 1))) (t (m - (k + 1))) = true) => show ∀ j, m - (k + 1) ≤ j → j < m → alk (s (n - m + j)) (t j) = true from fun j h1 h2 => by
        by_cases e : j = m - (k + 1)
        · rw [e, show n - m + (m - (k + 1)) = n - (k + 1) by omega]; exact h
        · exact HAL.out j (by omega) h2)
      have HBAD := Lib.hid (fun (h : alk (s (n - (k + 1))) (t (m - (k + 1))) = false) => show alkUpTo (fun j => s (n - m + j)) t m = false from
        alkUpTo_false (k := m - (k + 1)) (by omega) (by rw [show n - m + (m - (k + 1)) = n - (k + 1) by omega]; exact h))
      have e1 : (n : Int) - ((k : Int) + 1) = ((n - (k + 1) : Nat) : Int) := by omega
      have e2 : (m : Int) - ((k : Int) + 1) = ((m - (k + 1) : Nat) : Int) := by omega
      have w1 : IntKind.i64.wrap ((n - (k + 1) : Nat) : Int) = ((n - (k + 1) : Nat) : Int) := IntWalk.i64_in _ (by omega)
      have w2 : IntKind.i64.wrap ((m - (k + 1) : Nat) : Int) = ((m - (k + 1) : Nat) : Int) := IntWalk.i64_in _ (by omega)
      have p0 : n - (k + 1) < n := by omega
      have p1 : m - (k + 1) < m := by omega
      have HCL := Lib.hid (fun (w : World) => labels_any w (s (n - (k + 1))) (t (m - (k + 1))) hs1 ht1)
      clear hs1 ht1
      generalize hA : alk (s (n - (k + 1))) (t (m - (k + 1))) = A at *
      have HA := Lib.hid hA; clear hA
      have HCL2 := Lib.hid (fun (w : World) => (HCL.out w).mono (R' := fun e w' => ∃ x : Int, e = .returned (.int .i64 x) ∧ (x != 0) = !A ∧ Fr [] w w') (by
        rintro e w' ⟨x, he, hx, hf⟩
        refine ⟨x, he, ?_, hf⟩
        rw [HA.out] at hx
        cases A
        · have : x ≠ 0 := fun h => absurd (hx.1 h) (by decide)
          simpa using this
        · have : x = 0 := hx.2 rfl
          simpa using this))
      clear HCL HA
      generalize s (n - (k + 1)) = sk at *
      generalize t (m - (k + 1)) = tk at *
      generalize n - (k + 1) = pn at *
      generalize m - (k + 1) = pm at *
      have hpm2 : pm + k + 1 ≤ m := by omega
      have q0 : (0 : Int) ≤ (pn : Int) := by omega
      have q1 : (0 : Int) ≤ (pm : Int) := by omega
      have q2 : (pn : Int) < (n : Int) := by omega
      have q3 : (pm : Int) < (m : Int) := by omega
      have hd : decide ((m : Int) < (k : Int) + 1) = false := by simp; omega
      have hd2 : decide ((k : Int) + 1 ≤ (m : Int)) = true := by simp; omega
      have hd3 : (k : Int) + 1 ≤ (m : Int) := by omega
      clear p0 p1
      go_upto_region 6 with fail
      go_cut [32] (fun v wx => v = .bool (!A) ∧ Fr [] w wx)
      case first =>
        have HFD := Lib.hid (show Fr [] w wr.drew from HF.out.drew)
        go_region_held3 (fun w4 => (w4.cell? ⟨b1, o1 + pn, none⟩ = some (.string sk)) ∧ (w4.cell? ⟨b2, o2 + pm, none⟩ = some (.string tk)))
          (first | exact ⟨x0, x1⟩ | exact ⟨HY.out.1, HY.out.2⟩ | fail)
          (first
            | (go_at_call 91; (with_reducible refine (HCL2.out _).mono ?_); rintro e wx ⟨x, rfl, hx, hfx⟩; have HX := Lib.hid (HFD.out.trans hfx (by simp)); have HY := Lib.hid (And.intro (hfx.cell (p := ⟨b1, o1 + pn, none⟩) (v := .string sk) x0 (by simp)) (hfx.cell (p := ⟨b2, o2 + pm, none⟩) (v := .string tk) x1 (by simp))))
            | fail)
        all_goals (go_wp2_with fail; go_meet)
        all_goals exact ⟨rfl, HX.out⟩
      case rest =>
        obtain ⟨rfl, hfc⟩ := hcut
        have HFC := Lib.hid hfc
        clear hfc
        cases A
        · have HV := Lib.hid (HBAD.out rfl)
          go_wp2
          go_ret
          exact ⟨by rw [HE.out, HV.out]; rfl, HFC.out⟩
        · have HV := Lib.hid (HNEW.out rfl)
          clear HNEW HBAD e1 e2 w1 w2
          go_wp2
          go_roundw
          case rel => exact ⟨k + 1, by omega, by go_num, fun j h1 h2 => HV.out j (by omega) h2, HFC.out⟩
          case measure => simp [intOf]; omega
    · obtain rfl : k = m := by omega
      have HV := Lib.hid (alkUpTo_true (s := fun j => s (n - k + j)) (t := t) (n := k) (fun j hj => HAL.out j (by omega) hj))
      go_wp2
      go_ret
      exact ⟨by rw [HE.out, HV.out]; rfl, HF.out⟩

end Go.Proofs.YtgpfkaiinbncnaaDoor
