/- cache.Key at any message. -/
import Derived.Test.YtkdmkpdooiacaaaDoorZKeyOk
namespace Go.Proofs.YtkdmkpdooiacaaaDoor
open Go.RowKit

/-- what Key leaves -/
def KeyGood (w w' : World) (m : Ms) (dob : Bool) (z : Int) (e : Ending) : Prop :=
  ((keyFault m z = 0 ∧ ∃ v', e = .returned (.tuple #[v', .nilIface]) ∧ OwnB w' w.heap.size v' (keyL (m.Q 0) m.h.rd dob)) ∨ (keyFault m z ≠ 0 ∧ e = .returned (.tuple #[.slice none 0 0, .iface 25 (.int .i64 (keyFault m z))]))) ∧ Fr [] w w'

theorem key_any (w : World) (B : HB) (m : Ms) (vq va vu vm : Value) (dob : Bool) (z : Int) (hm : MsOk B w m vq va vu vm) (hfs : FindSays m vq va vu vm dob z w) :
    Calls Tryd.prog 8 #[msgV m.h vq va vu vm] w fun e w' => KeyGood w w' m dob z e := by
  have hk : keyFault m z = if m.qn ≠ 1 then 9 else if nmFault (m.Q 0).nl (m.Q 0).nm ≠ 0 then nmFault (m.Q 0).nl (m.Q 0).nm else if ¬ (m.Q 0).ok then 6 else z := rfl
  by_cases h1 : m.qn = 1
  · rw [if_neg (by simp [h1])] at hk
    by_cases h2 : nmFault (m.Q 0).nl (m.Q 0).nm = 0
    · rw [if_neg (by simp [h2])] at hk
      by_cases h3 : (m.Q 0).ok
      · rw [if_neg (by simp [h3])] at hk
        by_cases h4 : z = 0
        · subst h4
          exact (key_ok w B m vq va vu vm dob hm h1 h2 h3 hfs).mono fun e w' ⟨v', he, ho, hf⟩ => ⟨.inl ⟨hk, v', he, ho⟩, hf⟩
        · exact (key_opt w B m vq va vu vm dob z hm h1 h2 h3 hfs h4).mono fun e w' ⟨he, hf⟩ => ⟨.inr ⟨by rw [hk]; exact h4, by rw [hk]; exact he⟩, hf⟩
      · rw [if_pos h3] at hk
        exact (key_range w B m vq va vu vm hm h1 h2 h3).mono fun e w' ⟨he, hf⟩ => ⟨.inr ⟨by rw [hk]; decide, by rw [hk]; exact he⟩, hf⟩
    · rw [if_pos h2] at hk
      exact (key_name w B m vq va vu vm hm h1 h2).mono fun e w' ⟨he, hf⟩ => ⟨.inr ⟨by rw [hk]; exact h2, by rw [hk]; exact he⟩, hf⟩
  · rw [if_pos h1] at hk
    exact (key_none w B m vq va vu vm hm h1).mono fun e w' ⟨he, hf⟩ => ⟨.inr ⟨by rw [hk]; decide, by rw [hk]; exact he⟩, hf⟩

theorem FindSays.fr {m : Ms} {vq va vu vm : Value} {dob : Bool} {z : Int} {w w' : World} (h : FindSays m vq va vu vm dob z w) (hf : Fr [] w w') : FindSays m vq va vu vm dob z w' := fun wx hx => h wx (hf.trans hx (by simp))

end Go.Proofs.YtkdmkpdooiacaaaDoor
