/- Ordered of the reference. -/
import Derived.Test.YtbaiaolgjlhioaaDoorRendRef
namespace Go.Proofs.YtbaiaolgjlhioaaDoor
open Go.RowKit Go.Sort

/-- a node with its score -/
def nsc (p : Nat → Int × Int) (m : Nat) (kf : Nat → Int) (i : Nat) : Int × Int := (sco (p i) m kf, (p i).1)

/-- how many of the first j are ahead of i -/
def cnj (p : Nat → Int × Int) (m : Nat) (kf : Nat → Int) (i j : Nat) : Nat := (scs p m kf j).countP (fun y => ltOf cfr y (nsc p m kf i))

theorem cnj_succ (p : Nat → Int × Int) (m : Nat) (kf : Nat → Int) (i j : Nat) : cnj p m kf i (j + 1) = cnj p m kf i j + (if ltOf cfr (nsc p m kf j) (nsc p m kf i) = true then 1 else 0) := by
  unfold cnj
  rw [scs_succ, List.countP_append, List.countP_cons, List.countP_nil, Nat.zero_add]
  rfl

theorem cnj_le (p : Nat → Int × Int) (m : Nat) (kf : Nat → Int) (i j : Nat) : cnj p m kf i j ≤ j := by
  induction j with
  | zero => simp [cnj, scs]
  | succ j ih => rw [cnj_succ]; split <;> omega

theorem cnj_place {p : Nat → Int × Int} {n : Nat} (hp : NGood p n) (m : Nat) (kf : Nat → Int) (i : Nat) (hi : i < n) : cnj p m kf i n < n ∧ ordn p m kf n (cnj p m kf i n) = (p i).1 := by
  obtain ⟨j, hj, e1, e2⟩ := srr_at hp m kf i hi
  have e : cnj p m kf i n = j := e2.symm
  rw [e]
  exact ⟨hj, by unfold ordn; rw [e1]⟩

theorem cnj_inj {p : Nat → Int × Int} {n : Nat} (hp : NGood p n) (m : Nat) (kf : Nat → Int) (i t : Nat) (hi : i < n) (ht : t < n) (h : cnj p m kf i n = cnj p m kf t n) : i = t := by
  have h1 := (cnj_place hp m kf i hi).2
  have h2 := (cnj_place hp m kf t ht).2
  rw [h] at h1
  exact hp.ne i t hi ht (by rw [← h1, ← h2])

theorem cnj_surj {p : Nat → Int × Int} {n : Nat} (hp : NGood p n) (m : Nat) (kf : Nat → Int) (r : Nat) (hr : r < n) : ∃ i, i < n ∧ cnj p m kf i n = r :=
  pigeon n (fun i => cnj p m kf i n) (fun i hi => (cnj_place hp m kf i hi).1) (fun i j hi hj e => cnj_inj hp m kf i j hi hj e) r hr

set_option maxHeartbeats 8000000 in
set_option maxRecDepth 100000 in
theorem ordered_any (w : World) (a : Option Addr) (n c : Nat) (p : Nat → Int × Int) (hv : RdP w (.slice a n c) n p) (hg : NGood p n) (ka : Option Addr) (m kc : Nat) (kf : Nat → Int) (hk : RdF w (.slice ka m kc) m (fun j => .int .u8 (kf j))) (hb : ∀ j, j < m → 0 ≤ kf j ∧ kf j ≤ 255) (hm : m ≤ 140737488351232) :
    Calls Tryd.prog 7 #[.slice a n c, .slice ka m kc] w fun e w' => ∃ v, e = .returned v ∧ OwnF w' w.heap.size 3 v n (fun j => .int .i64 (ordn p m kf n j)) ∧ Fr [] w w' := by
  have HV := Lib.hid hv; clear hv
  have HK := Lib.hid hk; clear hk
  have HB := Lib.hid hb; clear hb
  have h40 := hg.n40
  have h0 := hg.n0
  have HG := Lib.hid hg; clear hg
  have HSC := Lib.hid (fun (w' : World) (i : Nat) (hi : i < n) (h : Fr [] w w') => (by
    obtain ⟨r1, r2, r3, r4⟩ := HG.out.rng i hi
    exact scored_any w' (p i).1 (p i).2 (by omega) (by omega) ka m kc kf (HK.out.fr h (by simp)) HB.out hm : Calls Tryd.prog 13 #[.agg #[.int .i64 (p i).1, .int .i64 (p i).2], .slice ka m kc] w' fun e w'' => e = .returned (.int .i64 (nsc p m kf i).1) ∧ Fr [] w' w''))
  obtain ⟨b, o, cap', he, hnc, hcm, hbw, hc⟩ := HV.out.shape h0
  simp only [Value.slice.injEq, true_and] at he
  obtain ⟨rfl, rfl⟩ := he
  have HC := Lib.hid hc; clear hc
  go_enter Tryd.func7, Tryd.ntmps7
  go_wp2
  go_loopw [5, 6] (fun v vr wr => ∃ r : Nat, r ≤ n ∧ vr = .int .i64 r ∧ OwnF wr w.heap.size 3 v r (fun j => .int .i64 (ordn p m kf n j)) ∧ Fr [] w wr) (fun _ vr _ => n - (intOf vr).toNat)
  case atStart => exact ⟨0, by omega, rfl, OwnF.nil _ _ _ _, Fr.refl _ _⟩
  case round =>
    obtain ⟨r, hr, rfl, hO, hf⟩ := hrel
    have HO := Lib.hid hO; clear hO
    have HF := Lib.hid hf; clear hf
    by_cases hltr : r < n
    · go_wp2
      go_loopw [5, 7] (fun v vi wr => ∃ (i q : Nat), i ≤ n ∧ vi = .int .i64 i ∧ OwnF wr w.heap.size 3 v q (fun j => .int .i64 (ordn p m kf n j)) ∧ ((q = r ∧ ∀ t, t < i → cnj p m kf t n ≠ r) ∨ (q = r + 1 ∧ ∃ t, t < i ∧ cnj p m kf t n = r)) ∧ Fr [] w wr) (fun _ vi _ => n - (intOf vi).toNat)
      case atStart => exact ⟨0, r, by omega, rfl, HO.out, .inl ⟨rfl, fun t ht => by omega⟩, HF.out⟩
      case round =>
        clear HO HF
        obtain ⟨i, q, hi, rfl, hO, hq, hf⟩ := hrel
        have HO := Lib.hid hO; clear hO
        have HQ := Lib.hid hq
        have hq2 : q ≤ r + 1 := by rcases hq with ⟨h, _⟩ | ⟨h, _⟩ <;> omega
        clear hq
        have HF := Lib.hid hf; clear hf
        by_cases hlti : i < n
        · have z0 : (0 : Int) ≤ (i : Int) := by omega
          have z1 : (i : Int) < (n : Int) := by omega
          go_wp2
          go_loopw [8, 9] (fun va vj wr => ∃ j : Nat, j ≤ n ∧ vj = .int .i64 j ∧ va = .int .i64 (cnj p m kf i j) ∧ OwnF wr w.heap.size 3 _ q (fun j => .int .i64 (ordn p m kf n j)) ∧ Fr [] w wr) (fun _ vj _ => n - (intOf vj).toNat)
          case atStart => exact ⟨0, by omega, rfl, by simp [cnj, scs], HO.out, HF.out⟩
          case round =>
            clear HO HF
            obtain ⟨j, hj, rfl, rfl, hO, hf⟩ := hrel
            have HO := Lib.hid hO; clear hO
            have HF := Lib.hid hf; clear hf
            by_cases hltj : j < n
            · obtain ⟨k0, k1⟩ := HC.out j hltj
              have c0 := HF.out.cell k0 (by simp)
              have c1 := HF.out.cell k1 (by simp)
              have y0 : (0 : Int) ≤ (j : Int) := by omega
              have y1 : (j : Int) < (n : Int) := by omega
              have hcl := cnj_le p m kf i j
              have HCS := Lib.hid (cnj_succ p m kf i j)
              have HLT := Lib.hid (lt_cfr (nsc p m kf j) (nsc p m kf i))
              clear k0 k1
              go_wp2_with fail
              refine (HSC.out _ j hltj HF.out).mono ?_
              rintro e w5 ⟨rfl, hf5⟩
              have HF5 := Lib.hid (HF.out.trans hf5 (by simp))
              have HO5 := Lib.hid (HO.out.kept hf5 (by simp))
              clear hf5 c0 c1
              obtain ⟨k0, k1⟩ := HC.out i hlti
              have c0 := HF5.out.cell k0 (by simp)
              have c1 := HF5.out.cell k1 (by simp)
              clear k0 k1
              go_wp2_with fail
              refine (HSC.out _ i hlti HF5.out).mono ?_
              rintro e w6 ⟨rfl, hf6⟩
              have HF6 := Lib.hid (HF5.out.trans hf6 (by simp))
              have HO6 := Lib.hid (HO5.out.kept hf6 (by simp))
              clear hf6 c0 c1
              have c0 := HF6.out.cell (HC.out i hlti).1 (by simp)
              have c1 := HF6.out.cell (HC.out j hltj).1 (by simp)
              have e2j : (nsc p m kf j).2 = (p j).1 := rfl
              have e2i : (nsc p m kf i).2 = (p i).1 := rfl
              rw [← e2j] at c1
              rw [← e2i] at c0
              clear e2j e2i
              generalize nsc p m kf j = X at *
              generalize nsc p m kf i = Y at *
              by_cases hgt : Y.1 < X.1
              · have d1 : decide (Y.1 < X.1) = true := by simpa using hgt
                have HC2 := Lib.hid (show cnj p m kf i (j + 1) = cnj p m kf i j + 1 by rw [HCS.out, HLT.out, if_pos (by simp [hgt])])
                generalize cnj p m kf i j = cn at *
                clear hgt
                go_wp2_with fail
                go_quiet (fail)
                go_wp2
                go_roundw
                case rel => exact ⟨j + 1, by omega, by go_num, by rw [HC2.out]; go_num, HO6.out.kept ((Fr.refl [] _).drewN _) (by simp), HF6.out.drewN _⟩
                case measure => simp [intOf]; omega
              · have d1 : decide (Y.1 < X.1) = false := by simpa using hgt
                by_cases heq : X.1 = Y.1
                · have d2 : (X.1 == Y.1) = true := by simpa using heq
                  by_cases hid : X.2 < Y.2
                  · have d3 : decide (X.2 < Y.2) = true := by simpa using hid
                    have HC2 := Lib.hid (show cnj p m kf i (j + 1) = cnj p m kf i j + 1 by rw [HCS.out, HLT.out, if_pos (by simp [heq, hid])])
                    generalize cnj p m kf i j = cn at *
                    clear hgt heq hid
                    go_wp2_with fail
                    go_quiet (fail)
                    go_wp2
                    go_roundw
                    case rel => exact ⟨j + 1, by omega, by go_num, by rw [HC2.out]; go_num, HO6.out.kept ((Fr.refl [] _).drewN _) (by simp), HF6.out.drewN _⟩
                    case measure => simp [intOf]; omega
                  · have d3 : decide (X.2 < Y.2) = false := by simpa using hid
                    have HC2 := Lib.hid (show cnj p m kf i (j + 1) = cnj p m kf i j by rw [HCS.out, HLT.out, if_neg (by simp [heq]; omega), Nat.add_zero])
                    generalize cnj p m kf i j = cn at *
                    clear hgt heq hid
                    go_wp2_with fail
                    go_quiet (fail)
                    go_wp2
                    go_roundw
                    case rel => exact ⟨j + 1, by omega, by go_num, by rw [HC2.out], HO6.out.kept ((Fr.refl [] _).drewN _) (by simp), HF6.out.drewN _⟩
                    case measure => simp [intOf]; omega
                · have d2 : (X.1 == Y.1) = false := by simpa using heq
                  have HC2 := Lib.hid (show cnj p m kf i (j + 1) = cnj p m kf i j by rw [HCS.out, HLT.out, if_neg (by simp [heq]; omega), Nat.add_zero])
                  generalize cnj p m kf i j = cn at *
                  clear hgt heq
                  go_wp2_with fail
                  go_quiet (fail)
                  go_wp2
                  go_roundw
                  case rel => exact ⟨j + 1, by omega, by go_num, by rw [HC2.out], HO6.out.kept ((Fr.refl [] _).drewN _) (by simp), HF6.out.drewN _⟩
                  case measure => simp [intOf]; omega
            · obtain rfl : j = n := by omega
              obtain ⟨hpl, hpo⟩ := cnj_place HG.out m kf i hlti
              have HPO := Lib.hid hpo; clear hpo
              have HINJ := Lib.hid (fun (t : Nat) (ht : t < j) (e : cnj p m kf t j = cnj p m kf i j) => cnj_inj HG.out m kf t i ht hlti e)
              by_cases hcr : cnj p m kf i j = r
              · have hqr : q = r := by
                  rcases HQ.out with ⟨h, _⟩ | ⟨_, t, ht, e⟩
                  · exact h
                  · have := HINJ.out t (by omega) (by rw [e, hcr])
                    omega
                subst hqr
                have HID := Lib.hid (show ordn p m kf j q = (p i).1 by rw [← hcr]; exact HPO.out)
                have HCR := Lib.hid hcr
                rw [hcr]
                clear hcr
                have c0 := HF.out.cell (HC.out i hlti).1 (by simp)
                have hqq : (q == q) = true := by simp
                have hsz := HF.out.size
                have HOq := Lib.hid (HO.out.alloc (.cells #[.int .i64 (p i).1] 3))
                have HFq := Lib.hid (HF.out.alloc (.cells #[.int .i64 (p i).1] 3))
                go_wp2_with (at_builtin; refine wpList_app rfl (.tmp 68) (.tmp 74) 28 rfl 3 infoInt Tryd.underlying28 rfl HOq.out rfl (rd_one _ _ _ rfl) rfl (fun _ _ => rfl) (by unfold maxLen; omega) (by omega) (by simp; omega) ?_; intro v5 w5 ho5 hf5 hn5)
                have HO5 := Lib.hid (show OwnF w5 w.heap.size 3 v5 (q + 1) (fun t => .int .i64 (ordn p m kf j t)) from ho5.congr (fun t ht => by
                  unfold app
                  by_cases h : t < q
                  · rw [if_pos h]
                  · rw [if_neg h, show t = q by omega, HID.out]))
                have HF5 := Lib.hid (HFq.out.trans hf5 (fun y hy => .inr (HOq.out.ge y hy)))
                clear ho5 hf5 hn5
                go_roundw
                case rel => exact ⟨i + 1, q + 1, by omega, by go_num, HO5.out, .inr ⟨rfl, i, by omega, HCR.out⟩, HF5.out⟩
                case measure => simp [intOf]; omega
              · have hcb : (cnj p m kf i j == r) = false := by simpa using hcr
                have HQ2 := Lib.hid (show (q = r ∧ ∀ t, t < i + 1 → cnj p m kf t j ≠ r) ∨ (q = r + 1 ∧ ∃ t, t < i + 1 ∧ cnj p m kf t j = r) from by
                  rcases HQ.out with ⟨h, h2⟩ | ⟨h, t, ht, e⟩
                  · exact .inl ⟨h, fun t ht => by
                      by_cases e : t = i
                      · subst e; exact hcr
                      · exact h2 t (by omega)⟩
                  · exact .inr ⟨h, t, by omega, e⟩)
                clear hcr
                go_wp2
                go_roundw
                case rel => exact ⟨i + 1, q, by omega, by go_num, HO.out, HQ2.out, HF.out⟩
                case measure => simp [intOf]; omega
        · obtain rfl : i = n := by omega
          have hq3 : q = r + 1 := by
            rcases HQ.out with ⟨_, h⟩ | ⟨h, _⟩
            · obtain ⟨t, ht, e⟩ := cnj_surj HG.out m kf r hltr
              exact absurd e (h t ht)
            · exact h
          subst hq3
          go_wp2
          go_roundw
          case rel => exact ⟨r + 1, by omega, by go_num, HO.out, HF.out⟩
          case measure => simp [intOf]; omega
    · obtain rfl : r = n := by omega
      go_wp2
      go_ret
      exact ⟨_, rfl, HO.out, HF.out⟩

end Go.Proofs.YtbaiaolgjlhioaaDoor
