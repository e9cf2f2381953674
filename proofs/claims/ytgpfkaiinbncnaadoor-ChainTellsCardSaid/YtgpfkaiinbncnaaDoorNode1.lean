/- rule.node1: is a part of a rule as it must be? -/
import Derived.Test.YtgpfkaiinbncnaaDoorMatch
namespace Go.Proofs.YtgpfkaiinbncnaaDoor
open Go.RowKit

theorem Mt.Ok.fr {w w' : World} {m : Mt} (h : m.Ok w) (hf : Fr [] w w') : m.Ok w' :=
  ⟨h.op0, h.k0, h.rdn.fr hf (fun _ _ _ _ => by simp), h.rda.fr hf (fun _ _ _ _ => by simp), h.szs, h.ads⟩

/-- does the part hold more than its question takes? -/
def extra (m : Mt) : Prop := ((m.op ≠ 3 ∧ m.op ≠ 4 ∧ m.op ≠ 5 ∧ m.op ≠ 7) ∧ m.k ≠ 0) ∨ (m.op ≠ 2 ∧ m.nl ≠ 0) ∨ (m.op ≠ 7 ∧ m.al ≠ 0)

instance (m : Mt) : Decidable (extra m) := by unfold extra; infer_instance

/-- what is wrong with a part -/
def n1Fault (m : Mt) : Int := if m.op < 1 ∨ 10 < m.op then 1 else if extra m then 1 else wiFault m

theorem n1_not {m : Mt} (h : m.op < 1 ∨ 10 < m.op) : n1Fault m = 1 := by unfold n1Fault; rw [if_pos h]
theorem n1_extra {m : Mt} (h : extra m) : n1Fault m = 1 := by unfold n1Fault; rw [if_pos h]; split <;> rfl
theorem n1_in {m : Mt} (h0 : ¬ (m.op < 1 ∨ 10 < m.op)) (h : ¬ extra m) : n1Fault m = wiFault m := by unfold n1Fault; rw [if_neg h0, if_neg h]

set_option maxHeartbeats 4000000 in
set_option maxRecDepth 100000 in
theorem node1_any (w : World) (m : Mt) (hm : m.Ok w) : Calls Tryd.prog 88 #[m.agg] w fun e w' => e = .returned (erVn (n1Fault m)) ∧ Fr [] w w' := by
  obtain ⟨op, k, na, nl, nc, nm, aa, al, ac, ad⟩ := m
  have HM := Lib.hid hm
  have hal := hm.rda.le_cap
  have hnl := hm.rdn.le_cap
  clear hm
  unfold maxLen at hal hnl
  simp only at hal hnl
  show Calls Tryd.prog 88 #[.agg #[.int .i64 op, .int .i64 k, .slice na nl nc, .slice aa al ac]] w _
  go_enter Tryd.func88, Tryd.ntmps88
  have HW := Lib.hid (fun w2 (h : Fr [] w w2) => within_any w2 ⟨op, k, na, nl, nc, nm, aa, al, ac, ad⟩ (HM.out.fr h))
  unfold Mt.agg at HW
  by_cases h1 : op = 1
  · subst h1
    by_cases hk : k = 0
    · subst hk
      by_cases hn : nl = 0
      · subst hn
        by_cases ha : al = 0
        · subst ha
          have HV := Lib.hid (n1_in (m := ⟨1, 0, na, 0, nc, nm, aa, 0, ac, ad⟩) (by simp) (by simp [extra]))
          go_wp2_with (go_at_call 107; refine (HW.out _ (((Fr.refl [] w).alloc _).alloc _)).mono ?_; rintro e wx ⟨rfl, hfx⟩)
          go_ret
          exact ⟨by rw [HV.out]; rfl, (((Fr.refl [] w).alloc _).alloc _).trans hfx (by simp)⟩
        · have HV := Lib.hid (n1_extra (m := ⟨1, 0, na, 0, nc, nm, aa, al, ac, ad⟩) (by simp [extra, ha]))
          go_wp2
          go_ret
          exact ⟨by rw [HV.out]; rfl, (((Fr.refl [] w).alloc _).alloc _)⟩
      · have HV := Lib.hid (n1_extra (m := ⟨1, 0, na, nl, nc, nm, aa, al, ac, ad⟩) (by simp [extra, hn]))
        go_wp2
        go_ret
        exact ⟨by rw [HV.out]; rfl, (((Fr.refl [] w).alloc _).alloc _)⟩
    · have HV := Lib.hid (n1_extra (m := ⟨1, k, na, nl, nc, nm, aa, al, ac, ad⟩) (by simp [extra, hk]))
      go_wp2
      go_ret
      exact ⟨by rw [HV.out]; rfl, (((Fr.refl [] w).alloc _).alloc _)⟩
  by_cases h2 : op = 2
  · subst h2
    by_cases hk : k = 0
    · subst hk
      by_cases ha : al = 0
      · subst ha
        have HV := Lib.hid (n1_in (m := ⟨2, 0, na, nl, nc, nm, aa, 0, ac, ad⟩) (by simp) (by simp [extra]))
        go_wp2_with (go_at_call 107; refine (HW.out _ (((Fr.refl [] w).alloc _).alloc _)).mono ?_; rintro e wx ⟨rfl, hfx⟩)
        go_ret
        exact ⟨by rw [HV.out]; rfl, (((Fr.refl [] w).alloc _).alloc _).trans hfx (by simp)⟩
      · have HV := Lib.hid (n1_extra (m := ⟨2, 0, na, nl, nc, nm, aa, al, ac, ad⟩) (by simp [extra, ha]))
        go_wp2
        go_ret
        exact ⟨by rw [HV.out]; rfl, (((Fr.refl [] w).alloc _).alloc _)⟩
    · have HV := Lib.hid (n1_extra (m := ⟨2, k, na, nl, nc, nm, aa, al, ac, ad⟩) (by simp [extra, hk]))
      go_wp2
      go_ret
      exact ⟨by rw [HV.out]; rfl, (((Fr.refl [] w).alloc _).alloc _)⟩
  by_cases h3 : op = 3
  · subst h3
    by_cases hn : nl = 0
    · subst hn
      by_cases ha : al = 0
      · subst ha
        have HV := Lib.hid (n1_in (m := ⟨3, k, na, 0, nc, nm, aa, 0, ac, ad⟩) (by simp) (by simp [extra]))
        go_wp2_with (go_at_call 107; refine (HW.out _ (((Fr.refl [] w).alloc _).alloc _)).mono ?_; rintro e wx ⟨rfl, hfx⟩)
        go_ret
        exact ⟨by rw [HV.out]; rfl, (((Fr.refl [] w).alloc _).alloc _).trans hfx (by simp)⟩
      · have HV := Lib.hid (n1_extra (m := ⟨3, k, na, 0, nc, nm, aa, al, ac, ad⟩) (by simp [extra, ha]))
        go_wp2
        go_ret
        exact ⟨by rw [HV.out]; rfl, (((Fr.refl [] w).alloc _).alloc _)⟩
    · have HV := Lib.hid (n1_extra (m := ⟨3, k, na, nl, nc, nm, aa, al, ac, ad⟩) (by simp [extra, hn]))
      go_wp2
      go_ret
      exact ⟨by rw [HV.out]; rfl, (((Fr.refl [] w).alloc _).alloc _)⟩
  by_cases h4 : op = 4
  · subst h4
    by_cases hn : nl = 0
    · subst hn
      by_cases ha : al = 0
      · subst ha
        have HV := Lib.hid (n1_in (m := ⟨4, k, na, 0, nc, nm, aa, 0, ac, ad⟩) (by simp) (by simp [extra]))
        go_wp2_with (go_at_call 107; refine (HW.out _ (((Fr.refl [] w).alloc _).alloc _)).mono ?_; rintro e wx ⟨rfl, hfx⟩)
        go_ret
        exact ⟨by rw [HV.out]; rfl, (((Fr.refl [] w).alloc _).alloc _).trans hfx (by simp)⟩
      · have HV := Lib.hid (n1_extra (m := ⟨4, k, na, 0, nc, nm, aa, al, ac, ad⟩) (by simp [extra, ha]))
        go_wp2
        go_ret
        exact ⟨by rw [HV.out]; rfl, (((Fr.refl [] w).alloc _).alloc _)⟩
    · have HV := Lib.hid (n1_extra (m := ⟨4, k, na, nl, nc, nm, aa, al, ac, ad⟩) (by simp [extra, hn]))
      go_wp2
      go_ret
      exact ⟨by rw [HV.out]; rfl, (((Fr.refl [] w).alloc _).alloc _)⟩
  by_cases h5 : op = 5
  · subst h5
    by_cases hn : nl = 0
    · subst hn
      by_cases ha : al = 0
      · subst ha
        have HV := Lib.hid (n1_in (m := ⟨5, k, na, 0, nc, nm, aa, 0, ac, ad⟩) (by simp) (by simp [extra]))
        go_wp2_with (go_at_call 107; refine (HW.out _ (((Fr.refl [] w).alloc _).alloc _)).mono ?_; rintro e wx ⟨rfl, hfx⟩)
        go_ret
        exact ⟨by rw [HV.out]; rfl, (((Fr.refl [] w).alloc _).alloc _).trans hfx (by simp)⟩
      · have HV := Lib.hid (n1_extra (m := ⟨5, k, na, 0, nc, nm, aa, al, ac, ad⟩) (by simp [extra, ha]))
        go_wp2
        go_ret
        exact ⟨by rw [HV.out]; rfl, (((Fr.refl [] w).alloc _).alloc _)⟩
    · have HV := Lib.hid (n1_extra (m := ⟨5, k, na, nl, nc, nm, aa, al, ac, ad⟩) (by simp [extra, hn]))
      go_wp2
      go_ret
      exact ⟨by rw [HV.out]; rfl, (((Fr.refl [] w).alloc _).alloc _)⟩
  by_cases h6 : op = 6
  · subst h6
    by_cases hk : k = 0
    · subst hk
      by_cases hn : nl = 0
      · subst hn
        by_cases ha : al = 0
        · subst ha
          have HV := Lib.hid (n1_in (m := ⟨6, 0, na, 0, nc, nm, aa, 0, ac, ad⟩) (by simp) (by simp [extra]))
          go_wp2_with (go_at_call 107; refine (HW.out _ (((Fr.refl [] w).alloc _).alloc _)).mono ?_; rintro e wx ⟨rfl, hfx⟩)
          go_ret
          exact ⟨by rw [HV.out]; rfl, (((Fr.refl [] w).alloc _).alloc _).trans hfx (by simp)⟩
        · have HV := Lib.hid (n1_extra (m := ⟨6, 0, na, 0, nc, nm, aa, al, ac, ad⟩) (by simp [extra, ha]))
          go_wp2
          go_ret
          exact ⟨by rw [HV.out]; rfl, (((Fr.refl [] w).alloc _).alloc _)⟩
      · have HV := Lib.hid (n1_extra (m := ⟨6, 0, na, nl, nc, nm, aa, al, ac, ad⟩) (by simp [extra, hn]))
        go_wp2
        go_ret
        exact ⟨by rw [HV.out]; rfl, (((Fr.refl [] w).alloc _).alloc _)⟩
    · have HV := Lib.hid (n1_extra (m := ⟨6, k, na, nl, nc, nm, aa, al, ac, ad⟩) (by simp [extra, hk]))
      go_wp2
      go_ret
      exact ⟨by rw [HV.out]; rfl, (((Fr.refl [] w).alloc _).alloc _)⟩
  by_cases h7 : op = 7
  · subst h7
    by_cases hn : nl = 0
    · subst hn
      have HV := Lib.hid (n1_in (m := ⟨7, k, na, 0, nc, nm, aa, al, ac, ad⟩) (by simp) (by simp [extra]))
      go_wp2_with (go_at_call 107; refine (HW.out _ (((Fr.refl [] w).alloc _).alloc _).drew).mono ?_; rintro e wx ⟨rfl, hfx⟩)
      go_region
      go_wp2_with (go_at_call 107; refine (HW.out _ (((Fr.refl [] w).alloc _).alloc _).drew).mono ?_; rintro e wx ⟨rfl, hfx⟩)
      go_ret
      exact ⟨by rw [HV.out]; rfl, (((Fr.refl [] w).alloc _).alloc _).drew.trans hfx (by simp)⟩
    · have HV := Lib.hid (n1_extra (m := ⟨7, k, na, nl, nc, nm, aa, al, ac, ad⟩) (by simp [extra, hn]))
      go_wp2
      go_region
      go_wp2
      go_ret
      exact ⟨by rw [HV.out]; rfl, (((Fr.refl [] w).alloc _).alloc _).drew⟩
  by_cases h8 : op = 8
  · subst h8
    by_cases hk : k = 0
    · subst hk
      by_cases hn : nl = 0
      · subst hn
        by_cases ha : al = 0
        · subst ha
          have HV := Lib.hid (n1_in (m := ⟨8, 0, na, 0, nc, nm, aa, 0, ac, ad⟩) (by simp) (by simp [extra]))
          go_wp2_with (go_at_call 107; refine (HW.out _ (((Fr.refl [] w).alloc _).alloc _)).mono ?_; rintro e wx ⟨rfl, hfx⟩)
          go_ret
          exact ⟨by rw [HV.out]; rfl, (((Fr.refl [] w).alloc _).alloc _).trans hfx (by simp)⟩
        · have HV := Lib.hid (n1_extra (m := ⟨8, 0, na, 0, nc, nm, aa, al, ac, ad⟩) (by simp [extra, ha]))
          go_wp2
          go_ret
          exact ⟨by rw [HV.out]; rfl, (((Fr.refl [] w).alloc _).alloc _)⟩
      · have HV := Lib.hid (n1_extra (m := ⟨8, 0, na, nl, nc, nm, aa, al, ac, ad⟩) (by simp [extra, hn]))
        go_wp2
        go_ret
        exact ⟨by rw [HV.out]; rfl, (((Fr.refl [] w).alloc _).alloc _)⟩
    · have HV := Lib.hid (n1_extra (m := ⟨8, k, na, nl, nc, nm, aa, al, ac, ad⟩) (by simp [extra, hk]))
      go_wp2
      go_ret
      exact ⟨by rw [HV.out]; rfl, (((Fr.refl [] w).alloc _).alloc _)⟩
  by_cases h9 : op = 9
  · subst h9
    by_cases hk : k = 0
    · subst hk
      by_cases hn : nl = 0
      · subst hn
        by_cases ha : al = 0
        · subst ha
          have HV := Lib.hid (n1_in (m := ⟨9, 0, na, 0, nc, nm, aa, 0, ac, ad⟩) (by simp) (by simp [extra]))
          go_wp2_with (go_at_call 107; refine (HW.out _ (((Fr.refl [] w).alloc _).alloc _)).mono ?_; rintro e wx ⟨rfl, hfx⟩)
          go_ret
          exact ⟨by rw [HV.out]; rfl, (((Fr.refl [] w).alloc _).alloc _).trans hfx (by simp)⟩
        · have HV := Lib.hid (n1_extra (m := ⟨9, 0, na, 0, nc, nm, aa, al, ac, ad⟩) (by simp [extra, ha]))
          go_wp2
          go_ret
          exact ⟨by rw [HV.out]; rfl, (((Fr.refl [] w).alloc _).alloc _)⟩
      · have HV := Lib.hid (n1_extra (m := ⟨9, 0, na, nl, nc, nm, aa, al, ac, ad⟩) (by simp [extra, hn]))
        go_wp2
        go_ret
        exact ⟨by rw [HV.out]; rfl, (((Fr.refl [] w).alloc _).alloc _)⟩
    · have HV := Lib.hid (n1_extra (m := ⟨9, k, na, nl, nc, nm, aa, al, ac, ad⟩) (by simp [extra, hk]))
      go_wp2
      go_ret
      exact ⟨by rw [HV.out]; rfl, (((Fr.refl [] w).alloc _).alloc _)⟩
  by_cases h10 : op = 10
  · subst h10
    by_cases hk : k = 0
    · subst hk
      by_cases hn : nl = 0
      · subst hn
        by_cases ha : al = 0
        · subst ha
          have HV := Lib.hid (n1_in (m := ⟨10, 0, na, 0, nc, nm, aa, 0, ac, ad⟩) (by simp) (by simp [extra]))
          go_wp2_with (go_at_call 107; refine (HW.out _ (((Fr.refl [] w).alloc _).alloc _)).mono ?_; rintro e wx ⟨rfl, hfx⟩)
          go_ret
          exact ⟨by rw [HV.out]; rfl, (((Fr.refl [] w).alloc _).alloc _).trans hfx (by simp)⟩
        · have HV := Lib.hid (n1_extra (m := ⟨10, 0, na, 0, nc, nm, aa, al, ac, ad⟩) (by simp [extra, ha]))
          go_wp2
          go_ret
          exact ⟨by rw [HV.out]; rfl, (((Fr.refl [] w).alloc _).alloc _)⟩
      · have HV := Lib.hid (n1_extra (m := ⟨10, 0, na, nl, nc, nm, aa, al, ac, ad⟩) (by simp [extra, hn]))
        go_wp2
        go_ret
        exact ⟨by rw [HV.out]; rfl, (((Fr.refl [] w).alloc _).alloc _)⟩
    · have HV := Lib.hid (n1_extra (m := ⟨10, k, na, nl, nc, nm, aa, al, ac, ad⟩) (by simp [extra, hk]))
      go_wp2
      go_ret
      exact ⟨by rw [HV.out]; rfl, (((Fr.refl [] w).alloc _).alloc _)⟩
  have HV := Lib.hid (n1_not (m := ⟨op, k, na, nl, nc, nm, aa, al, ac, ad⟩) (by simp only; omega))
  go_wp2
  go_ret
  exact ⟨by rw [HV.out]; rfl, (((Fr.refl [] w).alloc _).alloc _)⟩

end Go.Proofs.YtgpfkaiinbncnaaDoor
