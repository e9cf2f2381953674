/- lru: the law that each law over it begins with. -/
import Derived.Test.YthopnlnknicgbaaDoorLru
namespace Go.Proofs.YthopnlnknicgbaaDoor
open Go.RowKit

set_option maxHeartbeats 1000000 in
theorem touched_any (w : World) : Calls Tryd.prog 33 #[] w fun e w' => e = .returned (.bool true) ∧ Fr [] w w' := by
  go_enter Tryd.func33, Tryd.ntmps33
  go_wp2_with fail
  refine (lru_new _ 1).mono ?_
  rintro e w1 ⟨hf1, ⟨_, p, rfl, hp, hL⟩ | ⟨hno, _⟩⟩
  · have HL1 := Lib.hid (hL w.heap.size); clear hL
    have hs1 := hf1.size
    have HF1 := Lib.hid hf1; clear hf1
    have e1 : (rcn 7 []).take 1 = [7] := rfl
    have e2 : decide ((7 : Int) ∈ ([] : List Int)) = false := rfl
    have e3 : decide ((1 : Int).toNat < (rcn 7 []).length) = false := rfl
    have e4 : tgone 7 [] (1 : Int).toNat = 0 := rfl
    go_wp2_with fail
    refine (lru_touch _ 7 HL1.out hs1 (by decide)).mono ?_
    rintro e w2 ⟨v2, rfl, hL2, hf2, hn2⟩
    rw [e2, e3, e4]
    have hL2' : Lru w2 p w.heap.size 1 v2 [7] := hL2
    have hF2 : Fr [] w w2 := HF1.out.trans hf2 (fun x hx => .inr (by simp [Value.ownBlock] at hx; omega))
    have hs2 := hF2.size
    have e5 : decide ((8 : Int) ∈ ([7] : List Int)) = false := rfl
    have e6 : decide (1 < (rcn 8 [7]).length) = true := rfl
    have e7 : tgone 8 [7] 1 = 7 := rfl
    have hge := hL2'.own.ge
    have HF2 := Lib.hid hF2
    clear hL2 hf2 hn2 hF2 e1 e2 e3 e4
    go_wp2_with fail
    refine (lru_touch _ 8 hL2' hs2 (by decide)).mono ?_
    rintro e w3 ⟨v3, rfl, hL3, hf3, hn3⟩
    rw [e5, e6, e7]
    have HF3 := Lib.hid (show Fr [] w w3 from HF2.out.trans hf3 (fun x hx => by
      rcases List.mem_cons.1 hx with rfl | hx
      · exact .inr hp
      · exact .inr (hge x hx)))
    clear hL3 hf3 hn3 e5 e6 e7 hge
    go_wp2
    go_ret
    exact ⟨rfl, HF3.out⟩
  · exact absurd (by unfold LruOk; omega) hno

end Go.Proofs.YthopnlnknicgbaaDoor
