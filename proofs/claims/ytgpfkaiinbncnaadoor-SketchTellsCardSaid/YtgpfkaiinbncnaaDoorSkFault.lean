/- SketchTells: any sketch; SketchFault of the reference, Check of a sketch that has a fault. -/
import Derived.Test.YtgpfkaiinbncnaaDoorSketch0
import Derived.BigQuiet
namespace Go.Proofs.YtgpfkaiinbncnaaDoor
open Go.RowKit

/-- rv reads as d rows, row i of L i numbers -/
def SkG (w : World) (rv : Value) (d : Nat) (L : Nat → Nat) (F : Nat → Nat → Int) : Prop :=
  ∃ R : Nat → Value, RdF w rv d R ∧ ∀ i, i < d → RdF w (R i) (L i) (fun j => .int .i64 (F i j))

theorem SkG.fr {w w' : World} {rv : Value} {d : Nat} {L : Nat → Nat} {F : Nat → Nat → Int} (h : SkG w rv d L F) (hf : Fr [] w w') : SkG w' rv d L F := by
  obtain ⟨R, h1, h2⟩ := h
  exact ⟨R, h1.fr hf (by simp), fun i hi => (h2 i hi).fr hf (by simp)⟩

def RowGood (ws : Int) (l : Nat) (f : Nat → Int) : Prop := (l : Int) = ws ∧ ∀ j, j < l → 0 ≤ f j ∧ f j ≤ 1125899906842624

/-- a sketch without a fault -/
def SkGood (ws : Int) (d : Nat) (L : Nat → Nat) (F : Nat → Nat → Int) : Prop :=
  (1 ≤ d ∧ d ≤ 8 ∧ 1 ≤ ws ∧ ws ≤ 1000) ∧ ∀ i, i < d → RowGood ws (L i) (F i)

theorem SkGood.ok {w : World} {rv : Value} {ws : Int} {d : Nat} {L : Nat → Nat} {F : Nat → Nat → Int} (h : SkGood ws d L F) (hs : SkG w rv d L F) : ∃ wd : Nat, ws = (wd : Int) ∧ SkOk d wd F ∧ SkF w rv d wd F := by
  obtain ⟨⟨h1, h2, h3, h4⟩, h5⟩ := h
  obtain ⟨wd, rfl⟩ : ∃ wd : Nat, ws = (wd : Int) := ⟨ws.toNat, by omega⟩
  have he : ∀ i, i < d → L i = wd := fun i hi => by have := (h5 i hi).1; omega
  obtain ⟨R, r1, r2⟩ := hs
  exact ⟨wd, rfl, ⟨⟨h1, h2⟩, by omega, fun i hi j hj => (h5 i hi).2 j (by rw [he i hi]; exact hj)⟩, R, r1, fun i hi => by have := r2 i hi; rwa [he i hi] at this⟩

set_option maxHeartbeats 4000000 in
set_option maxRecDepth 100000 in
theorem sketchFault_any (w : World) (rv : Value) (ws : Int) (d : Nat) (L : Nat → Nat) (F : Nat → Nat → Int) (hs : SkG w rv d L F) (hd : d ≤ 140737488355328) (hL : ∀ i, i < d → L i ≤ 140737488355328) (z : Int) (hz : (SkGood ws d L F ∧ z = 0) ∨ (¬ SkGood ws d L F ∧ z = 6)) :
    Calls Tryd.prog 11 #[.agg #[.int .i64 ws, rv]] w fun e w' => e = .returned (.int .i64 z) ∧ Fr [] w w' := by
  obtain ⟨R, hr, hR⟩ := hs
  obtain ⟨ra, rc, hrv⟩ := hr.slice
  subst hrv
  have HR := Lib.hid hr
  have HRR := Lib.hid hR
  have HZ := Lib.hid hz
  have HL := Lib.hid hL
  clear hr hR hz hL
  have HF := Lib.hid ((Fr.refl [] w).alloc (.cells #[.int .i64 ws, .slice ra d rc] 24))
  have hb := heap_alloc_new w (.cells #[.int .i64 ws, .slice ra d rc] 24)
  have c0 := blk_cell (v := .int .i64 ws) hb 0 rfl
  have c1 := blk_cell (v := .slice ra d rc) hb 1 rfl
  clear hb
  by_cases hg : 1 ≤ d ∧ d ≤ 8 ∧ 1 ≤ ws ∧ ws ≤ 1000
  · have HGD := Lib.hid hg
    obtain ⟨hg1, hg2, hg3, hg4⟩ := hg
    go_enter Tryd.func11, Tryd.ntmps11
    go_wp2_with fail
    generalize w.alloc (.cells #[.int .i64 ws, .slice ra d rc] 24) = w2 at *
    generalize w.heap.size = p at *
    have C0 := Lib.hid c0
    have C1 := Lib.hid c1
    clear c0 c1
    go_loopw [3] (fun i wr => ∃ k : Nat, k ≤ d ∧ i = .int .i64 k ∧ Hid (∀ i, i < k → RowGood ws (L i) (F i)) ∧ Hid (∃ q, wr = w2.drewN q)) (fun i _ => d - (intOf i).toNat)
    case atStart => exact ⟨0, by omega, rfl, Lib.hid (fun i hi => by omega), 0, rfl⟩
    case round =>
      obtain ⟨k, hk, rfl, HG, HW⟩ := hrel
      have hfr : Fr [] w2 wr := by obtain ⟨q, rfl⟩ := HW.out; exact (Fr.refl _ _).drewN q
      have HFR := Lib.hid hfr
      have c0 := hfr.cell C0.out (by simp)
      have c1 := hfr.cell C1.out (by simp)
      clear hfr
      by_cases hlt : k < d
      · obtain ⟨b, o, c, he, _, _, _, hc⟩ := HR.out.shape (by omega)
        simp only [Value.slice.injEq, true_and] at he
        obtain ⟨rfl, rfl⟩ := he
        have k1 := HFR.out.cell (HF.out.cell (hc k hlt) (by simp)) (by simp)
        obtain ⟨ak, ck, hak⟩ := (HRR.out k hlt).slice
        rw [hak] at k1
        have HRK := Lib.hid (show RdF wr (.slice ak (L k) ck) (L k) (fun j => .int .i64 (F k j)) by rw [← hak]; exact ((HRR.out k hlt).fr HF.out (by simp)).fr HFR.out (by simp))
        have hlk := HL.out k hlt
        clear hc hak
        have k0 : (0 : Int) ≤ (k : Int) := by omega
        have k3 : (k : Int) < (d : Int) := by omega
        by_cases hl : (L k : Int) = ws
        · have hne : ((L k : Int) != ws) = false := by simp [hl]
          have HLK := Lib.hid hl; clear hl
          go_wp2_with fail
          go_quiet (fail)
          have HRK2 := Lib.hid (HRK.out.fr ((Fr.refl [] wr).drewN nq) (by simp))
          have z0 := ((Fr.refl [] wr).drewN nq).cell c0 (by simp)
          have z1 := ((Fr.refl [] wr).drewN nq).cell c1 (by simp)
          have z2 := ((Fr.refl [] wr).drewN nq).cell k1 (by simp)
          have HW2 := Lib.hid (show ∃ q, wr.drewN nq = w2.drewN q from by obtain ⟨q, rfl⟩ := HW.out; exact ⟨_, World.drewN_drewN ..⟩)
          clear c0 c1 k1 HRK hne
          generalize wr.drewN nq = w3 at *
          go_wp2_with fail
          go_loopw [4] (fun j wx => ∃ t : Nat, t ≤ L k ∧ j = .int .i64 t ∧ Hid (∀ j, j < t → 0 ≤ F k j ∧ F k j ≤ 1125899906842624) ∧ Hid (wx = w3)) (fun j _ => L k - (intOf j).toNat)
          case atStart => exact ⟨0, by omega, rfl, Lib.hid (fun j hj => by omega), rfl⟩
          case round =>
            obtain ⟨t, ht, rfl, HGT, HX⟩ := hrel
            have hx := HX.out.symm
            subst hx
            by_cases htl : t < L k
            · obtain ⟨b2, o2, c2, he2, _, _, _, hc2⟩ := HRK2.out.shape (by omega)
              simp only [Value.slice.injEq, true_and] at he2
              obtain ⟨rfl, rfl⟩ := he2
              have k2 := hc2 t htl
              clear hc2
              have t0 : (0 : Int) ≤ (t : Int) := by omega
              have t3 : (t : Int) < (L k : Int) := by omega
              have t4 : (t : Int) < ws := by have := HLK.out; omega
              by_cases hgt : 0 ≤ F k t ∧ F k t ≤ 1125899906842624
              · have HGT2 := Lib.hid (show ∀ j, j < t + 1 → 0 ≤ F k j ∧ F k j ≤ 1125899906842624 from fun j hj => by
                  by_cases hjt : j < t
                  · exact HGT.out j hjt
                  · obtain rfl : j = t := by omega
                    exact hgt)
                obtain ⟨hg5, hg6⟩ := hgt
                go_wp2_with fail
                go_roundw
                case rel => exact ⟨t + 1, by omega, by go_num, HGT2, Lib.hid (by trivial)⟩
                case measure => simp [intOf]; omega
              · have hbad : z = 6 := by
                  rcases HZ.out with ⟨h1, _⟩ | ⟨_, h2⟩
                  · exact absurd ((h1.2 k hlt).2 t htl) hgt
                  · exact h2
                have HBAD := Lib.hid hbad
                have hgg : F k t < 0 ∨ (0 ≤ F k t ∧ 1125899906842624 < F k t) := by omega
                clear hgt hbad
                have HFW := Lib.hid (show Fr [] w w3 from by obtain ⟨q, hq⟩ := HW2.out; rw [hq]; exact HF.out.drewN q)
                rcases hgg with hg5 | ⟨hg5, hg6⟩
                all_goals
                  go_wp2
                  go_ret
                  exact ⟨by rw [HBAD.out]; rfl, HFW.out⟩
            · obtain rfl : t = L k := by omega
              have t4 : ¬ ((L k : Nat) : Int) < ws := by have := HLK.out; omega
              have HG2 := Lib.hid (show ∀ i, i < k + 1 → RowGood ws (L i) (F i) from fun i hi => by
                by_cases hik : i < k
                · exact HG.out i hik
                · obtain rfl : i = k := by omega
                  exact ⟨HLK.out, HGT.out⟩)
              go_wp2_with fail
              go_roundw
              case rel => exact ⟨k + 1, by omega, by go_num, HG2, HW2⟩
              case measure => simp [intOf]; omega
        · have hne : ((L k : Int) != ws) = true := by simpa using hl
          have hbad : z = 6 := by
            rcases HZ.out with ⟨h1, _⟩ | ⟨_, h2⟩
            · exact absurd (h1.2 k hlt).1 hl
            · exact h2
          have HBAD := Lib.hid hbad
          have HFW := Lib.hid (show Fr [] w wr from HF.out.trans HFR.out (by simp))
          clear hbad hl
          go_wp2_with fail
          go_quiet (fail)
          go_wp2
          go_ret
          exact ⟨by rw [HBAD.out]; rfl, HFW.out.drewN _⟩
      · obtain rfl : k = d := by omega
        have hok : z = 0 := by
          rcases HZ.out with ⟨_, h2⟩ | ⟨h1, _⟩
          · exact h2
          · exact absurd ⟨HGD.out, HG.out⟩ h1
        have HOK := Lib.hid hok
        clear hok
        go_wp2
        go_ret
        exact ⟨by rw [HOK.out]; rfl, HF.out.trans HFR.out (by simp)⟩
  · have hbad : z = 6 := by
      rcases HZ.out with ⟨h1, _⟩ | ⟨_, h2⟩
      · exact absurd h1.1 hg
      · exact h2
    have HBAD := Lib.hid hbad
    have hgg : d < 1 ∨ (1 ≤ d ∧ 8 < d) ∨ (1 ≤ d ∧ d ≤ 8 ∧ ws < 1) ∨ (1 ≤ d ∧ d ≤ 8 ∧ 1 ≤ ws ∧ 1000 < ws) := by omega
    clear hg hbad
    rcases hgg with h1 | ⟨h1, h2⟩ | ⟨h1, h2, h3⟩ | ⟨h1, h2, h3, h4⟩
    all_goals
      go_enter Tryd.func11, Tryd.ntmps11
      go_wp2
      go_ret
      exact ⟨by rw [HBAD.out]; rfl, HF.out⟩

set_option maxHeartbeats 4000000 in
set_option maxRecDepth 100000 in
theorem check_fault (w : World) (rv : Value) (ws : Int) (d : Nat) (L : Nat → Nat) (F : Nat → Nat → Int) (hs : SkG w rv d L F) (hd : d ≤ 140737488355328) (hL : ∀ i, i < d → L i ≤ 140737488355328) (hbad : ¬ SkGood ws d L F) :
    Calls Tryd.prog 12 #[.agg #[.int .i64 ws, rv]] w fun e w' => e = .returned (.iface 27 (.int .i64 6)) ∧ Fr [] w w' := by
  obtain ⟨R, hr, hR⟩ := hs
  obtain ⟨ra, rc, hrv⟩ := hr.slice
  subst hrv
  have HR := Lib.hid hr
  have HRR := Lib.hid hR
  have HBAD := Lib.hid hbad
  have HL := Lib.hid hL
  clear hr hR hL
  have HF := Lib.hid ((Fr.refl [] w).alloc (.cells #[.int .i64 ws, .slice ra d rc] 24))
  have hb := heap_alloc_new w (.cells #[.int .i64 ws, .slice ra d rc] 24)
  have c0 := blk_cell (v := .int .i64 ws) hb 0 rfl
  have c1 := blk_cell (v := .slice ra d rc) hb 1 rfl
  clear hb
  by_cases hg : 1 ≤ d ∧ d ≤ 8 ∧ 1 ≤ ws ∧ ws ≤ 1000
  · have HGD := Lib.hid hg
    obtain ⟨hg1, hg2, hg3, hg4⟩ := hg
    clear hbad
    go_enter Tryd.func12, Tryd.ntmps12
    go_wp2_with fail
    generalize w.alloc (.cells #[.int .i64 ws, .slice ra d rc] 24) = w2 at *
    generalize w.heap.size = p at *
    have C0 := Lib.hid c0
    clear c0 c1
    go_loopw [4, 29] (fun _ i wr => ∃ k : Nat, k ≤ d ∧ i = .int .i64 k ∧ Hid (∀ i, i < k → RowGood ws (L i) (F i)) ∧ wr = w2) (fun _ i _ => d - (intOf i).toNat)
    case atStart => exact ⟨0, by omega, rfl, Lib.hid (fun i hi => by omega), rfl⟩
    case round =>
      obtain ⟨k, hk, rfl, HG, hwr⟩ := hrel
      replace hwr := hwr.symm
      subst hwr
      have c0 := C0.out
      by_cases hlt : k < d
      · obtain ⟨b, o, c, he, _, _, _, hc⟩ := HR.out.shape (by omega)
        simp only [Value.slice.injEq, true_and] at he
        obtain ⟨rfl, rfl⟩ := he
        have k1 := HF.out.cell (hc k hlt) (by simp)
        obtain ⟨ak, ck, hak⟩ := (HRR.out k hlt).slice
        rw [hak] at k1
        have HRK := Lib.hid (show RdF w2 (.slice ak (L k) ck) (L k) (fun j => .int .i64 (F k j)) by rw [← hak]; exact (HRR.out k hlt).fr HF.out (by simp))
        have hlk := HL.out k hlt
        clear hc hak
        have k0 : (0 : Int) ≤ (k : Int) := by omega
        have k3 : (k : Int) < (d : Int) := by omega
        by_cases hl : (L k : Int) = ws
        · have hne : ((L k : Int) != ws) = false := by simp [hl]
          have hlp : 0 < L k := by omega
          have HLK := Lib.hid hl; clear hl
          have HMN := Lib.hid (mna_le (F k 0) (F k) (L k))
          have HMX := Lib.hid (mxa_le (F k 0) (F k) (L k))
          have HC1 := Lib.hid (min_any w2 _ (L k) (F k) HRK.out hlp (by omega))
          have HC2 := Lib.hid (max_any w2 _ (L k) (F k) HRK.out hlp (by omega))
          generalize mna (F k 0) (F k) (L k) = mn at *
          generalize mxa (F k 0) (F k) (L k) = mx at *
          by_cases hmn : mn < 0
          · go_wp2_with fail
            refine (HC1.out).mono ?_
            rintro e w3 ⟨rfl, rfl⟩
            go_wp2
            go_ret
            exact ⟨rfl, HF.out⟩
          · by_cases hmx : 1125899906842624 < mx
            · go_wp2_with fail
              refine (HC1.out).mono ?_
              rintro e w3 ⟨rfl, rfl⟩
              go_wp2_with fail
              refine (HC2.out).mono ?_
              rintro e w3 ⟨rfl, rfl⟩
              go_wp2
              go_ret
              exact ⟨rfl, HF.out⟩
            · have HG2 := Lib.hid (show ∀ i, i < k + 1 → RowGood ws (L i) (F i) from fun i hi => by
                by_cases hik : i < k
                · exact HG.out i hik
                · obtain rfl : i = k := by omega
                  exact ⟨HLK.out, fun j hj => by have := HMN.out.2 j hj; have := HMX.out.2 j hj; omega⟩)
              go_wp2_with fail
              refine (HC1.out).mono ?_
              rintro e w3 ⟨rfl, rfl⟩
              go_wp2_with fail
              refine (HC2.out).mono ?_
              rintro e w3 ⟨rfl, rfl⟩
              go_wp2_with fail
              go_roundw
              case rel => exact ⟨k + 1, by omega, by go_num, HG2, by trivial⟩
              case measure => simp [intOf]; omega
        · have hne : ((L k : Int) != ws) = true := by simpa using hl
          clear hl
          go_wp2
          go_ret
          exact ⟨rfl, HF.out⟩
      · obtain rfl : k = d := by omega
        exact absurd ⟨HGD.out, HG.out⟩ HBAD.out
  · have hgg : d < 1 ∨ (1 ≤ d ∧ 8 < d) ∨ (1 ≤ d ∧ d ≤ 8 ∧ ws < 1) ∨ (1 ≤ d ∧ d ≤ 8 ∧ 1 ≤ ws ∧ 1000 < ws) := by omega
    clear hg hbad
    rcases hgg with h1 | ⟨h1, h2⟩ | ⟨h1, h2, h3⟩ | ⟨h1, h2, h3, h4⟩
    all_goals
      go_enter Tryd.func12, Tryd.ntmps12
      go_wp2
      go_ret
      exact ⟨rfl, HF.out⟩

end Go.Proofs.YtgpfkaiinbncnaaDoor
