/- The reference's HealthFault and Probed. -/
import Derived.Test.YtlinembnfcdmcaaDoorHealth
namespace Go.Proofs.YtlinembnfcdmcaaDoor
open Go.RowKit

set_option maxHeartbeats 1000000 in
theorem hfault_ok (w : World) (up : Bool) (run rise fall : Int) (h : HOk up run rise fall) :
    Calls Tryd.prog 30 #[.agg #[.bool up, .int .i64 run], .int .i64 rise, .int .i64 fall] w fun e w' => e = .returned (.int .i64 0) ∧ Fr [] w w' := by
  obtain ⟨h1, h2, h3, h4, h5, h6⟩ := h
  have d1 : decide (rise < 1) = false := by simp; omega
  have d2 : decide (1000 < rise) = false := by simp; omega
  have d3 : decide (fall < 1) = false := by simp; omega
  have d4 : decide (1000 < fall) = false := by simp; omega
  have d5 : decide (run < 0) = false := by simp; omega
  cases up
  · have d6 : decide (rise ≤ run) = false := by simpa [tn] using h6
    go_enter Tryd.func30, Tryd.ntmps30
    go_wp2
    go_ret
    exact ⟨rfl, (Fr.refl _ _).alloc _⟩
  · have d6 : decide (fall ≤ run) = false := by simpa [tn] using h6
    go_enter Tryd.func30, Tryd.ntmps30
    go_wp2
    go_ret
    exact ⟨rfl, (Fr.refl _ _).alloc _⟩

set_option maxHeartbeats 1000000 in
theorem hfault_bad (w : World) (up : Bool) (run rise fall : Int) (h : ¬ HOk up run rise fall) :
    Calls Tryd.prog 30 #[.agg #[.bool up, .int .i64 run], .int .i64 rise, .int .i64 fall] w fun e w' => e = .returned (.int .i64 6) ∧ Fr [] w w' := by
  by_cases h1 : rise < 1
  · have d1 : decide (rise < 1) = true := by simpa using h1
    go_enter Tryd.func30, Tryd.ntmps30
    go_wp2
    go_ret
    exact ⟨rfl, (Fr.refl _ _).alloc _⟩
  have d1 : decide (rise < 1) = false := by simpa using h1
  by_cases h2 : 1000 < rise
  · have d2 : decide (1000 < rise) = true := by simpa using h2
    go_enter Tryd.func30, Tryd.ntmps30
    go_wp2
    go_ret
    exact ⟨rfl, (Fr.refl _ _).alloc _⟩
  have d2 : decide (1000 < rise) = false := by simpa using h2
  by_cases h3 : fall < 1
  · have d3 : decide (fall < 1) = true := by simpa using h3
    go_enter Tryd.func30, Tryd.ntmps30
    go_wp2
    go_ret
    exact ⟨rfl, (Fr.refl _ _).alloc _⟩
  have d3 : decide (fall < 1) = false := by simpa using h3
  by_cases h4 : 1000 < fall
  · have d4 : decide (1000 < fall) = true := by simpa using h4
    go_enter Tryd.func30, Tryd.ntmps30
    go_wp2
    go_ret
    exact ⟨rfl, (Fr.refl _ _).alloc _⟩
  have d4 : decide (1000 < fall) = false := by simpa using h4
  by_cases h5 : run < 0
  · have d5 : decide (run < 0) = true := by simpa using h5
    go_enter Tryd.func30, Tryd.ntmps30
    go_wp2
    go_ret
    exact ⟨rfl, (Fr.refl _ _).alloc _⟩
  have d5 : decide (run < 0) = false := by simpa using h5
  have h6 : ¬ run < tn up rise fall := fun h6 => h ⟨by omega, by omega, by omega, by omega, by omega, h6⟩
  cases up
  · have d6 : decide (rise ≤ run) = true := by simpa [tn] using h6
    clear h
    go_enter Tryd.func30, Tryd.ntmps30
    go_wp2
    go_ret
    exact ⟨rfl, (Fr.refl _ _).alloc _⟩
  · have d6 : decide (fall ≤ run) = true := by simpa [tn] using h6
    clear h
    go_enter Tryd.func30, Tryd.ntmps30
    go_wp2
    go_ret
    exact ⟨rfl, (Fr.refl _ _).alloc _⟩

set_option maxHeartbeats 1000000 in
theorem probed3_any (w : World) (up : Bool) (run rise fall : Int) (ok : Bool) (h : HOk up run rise fall) :
    Calls Tryd.prog 32 #[.agg #[.bool up, .int .i64 run], .bool ok, .int .i64 rise, .int .i64 fall] w fun e w' =>
      e = .returned (.agg #[.bool (stp (up, run) ok rise fall).1, .int .i64 (stp (up, run) ok rise fall).2]) ∧ Fr [] w w' := by
  obtain ⟨h1, h2, h3, h4, h5, h6⟩ := h
  have h7 := tn_bd up rise fall ⟨h1, h2, h3, h4⟩
  by_cases c1 : ok = up
  · have e : stp (up, run) ok rise fall = (up, 0) := by unfold stp; rw [if_pos c1]
    rw [e]
    have d1 : (ok == up) = true := by simp [c1]
    have C1 := Lib.hid c1; clear c1
    clear e
    go_enter Tryd.func32, Tryd.ntmps32
    go_wp2
    exact bodyPost_ret (v := .agg #[.bool up, .int .i64 0]) (by simp [results, Tryd.results32, go_sem]) rfl ⟨rfl, ((Fr.refl _ _).alloc _).alloc _⟩
  · have e : stp (up, run) ok rise fall = if run + 1 = tn up rise fall then (!up, 0) else (up, run + 1) := by unfold stp; rw [if_neg c1]
    rw [e]
    have d1 : (ok == up) = false := by simp [c1]
    clear c1 e
    by_cases c2 : run + 1 = tn up rise fall
    · rw [if_pos c2]
      cases up
      all_goals
        simp only [tn, if_true, if_false, Bool.false_eq_true] at c2 h6 h7
      · have d2 : (run + 1 == rise) = true := by simp [c2]
        clear c2
        go_enter Tryd.func32, Tryd.ntmps32
        go_wp2
        exact bodyPost_ret (v := .agg #[.bool true, .int .i64 0]) (by simp [results, Tryd.results32, go_sem]) rfl ⟨rfl, ((Fr.refl _ _).alloc _).alloc _⟩
      · have d2 : (run + 1 == fall) = true := by simp [c2]
        clear c2
        go_enter Tryd.func32, Tryd.ntmps32
        go_wp2
        exact bodyPost_ret (v := .agg #[.bool false, .int .i64 0]) (by simp [results, Tryd.results32, go_sem]) rfl ⟨rfl, ((Fr.refl _ _).alloc _).alloc _⟩
    · rw [if_neg c2]
      cases up
      all_goals
        simp only [tn, if_true, if_false, Bool.false_eq_true] at c2 h6 h7
      · have d2 : (run + 1 == rise) = false := by simp [c2]
        clear c2
        go_enter Tryd.func32, Tryd.ntmps32
        go_wp2
        exact bodyPost_ret (v := .agg #[.bool false, .int .i64 (run + 1)]) (by simp [results, Tryd.results32, go_sem]) rfl ⟨rfl, ((Fr.refl _ _).alloc _).alloc _⟩
      · have d2 : (run + 1 == fall) = false := by simp [c2]
        clear c2
        go_enter Tryd.func32, Tryd.ntmps32
        go_wp2
        exact bodyPost_ret (v := .agg #[.bool true, .int .i64 (run + 1)]) (by simp [results, Tryd.results32, go_sem]) rfl ⟨rfl, ((Fr.refl _ _).alloc _).alloc _⟩

end Go.Proofs.YtlinembnfcdmcaaDoor
