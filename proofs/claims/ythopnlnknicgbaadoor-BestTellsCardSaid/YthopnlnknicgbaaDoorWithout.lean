/- without of the reference. -/
import Derived.Test.YthopnlnknicgbaaDoorWout
import Derived.Test.YthopnlnknicgbaaDoorPlan
namespace Go.Proofs.YthopnlnknicgbaaDoor
open Go.RowKit

set_option maxRecDepth 100000 in
set_option maxHeartbeats 2000000 in
theorem without_any (w : World) (v : Value) (l : List Int) (y : Int) (hv : RdF w v l.length (fun j => .int .i64 (lg l j))) (hn : l.length ≤ 1000) :
    Calls Tryd.prog 58 #[v, .int .i64 y] w fun e w' => ∃ u, e = .returned u ∧ OwnF w' w.heap.size 3 u (wout y l).length (fun j => .int .i64 (lg (wout y l) j)) ∧ Fr [] w w' := by
  obtain ⟨a, c, rfl⟩ := hv.slice
  have HV := Lib.hid hv; clear hv
  have HLL := Lib.hid (show wout y l = wout y (l.take l.length) by rw [List.take_length])
  have HWS := Lib.hid (fun j hj => wout_succ y l j hj)
  have HWL := Lib.hid (fun j => Nat.le_trans (wout_len y (l.take j)) (List.length_take_le j l))
  generalize hm : l.length = m at *
  have HM := Lib.hid hm; clear hm
  go_enter Tryd.func58, Tryd.ntmps58
  go_wp2
  go_loopw [5, 6] (fun u i wr => ∃ j : Nat, j ≤ m ∧ i = .int .i64 j ∧ OwnF wr w.heap.size 3 u (wout y (l.take j)).length (fun q => .int .i64 (lg (wout y (l.take j)) q)) ∧ Fr [] w wr) (fun _ i _ => m - (intOf i).toNat)
  case atStart => exact ⟨0, by omega, rfl, OwnF.nil _ _ _ _, Fr.refl _ _⟩
  case round =>
    obtain ⟨j, hj, rfl, ho, hf⟩ := hrel
    have hsz := hf.size
    have HF := Lib.hid hf; clear hf
    by_cases hlt : j < m
    · obtain ⟨b1, o1, c1, he1, _, _, _, hc1⟩ := HV.out.shape (by omega)
      simp only [Value.slice.injEq, true_and] at he1
      obtain ⟨rfl, rfl⟩ := he1
      have k1 := HF.out.cell (hc1 j hlt) (by simp)
      clear hc1
      have k0 : (0 : Int) ≤ (j : Int) := by omega
      have k3 : (j : Int) < (m : Int) := by omega
      have hws := HWS.out j hlt
      have hwl := HWL.out j
      obtain ⟨av, cv, hav⟩ := ho.rd.slice
      subst hav
      have HO := Lib.hid ho; clear ho
      generalize wout y (l.take j) = L at *
      generalize lg l j = x at *
      by_cases hx : x = y
      · rw [if_pos hx] at hws
        have HW := Lib.hid hws
        have hb : (x != y) = false := by simp [hx]
        clear hws
        subst hx
        go_wp2
        go_roundw
        case rel => exact ⟨j + 1, by omega, by go_num, by rw [HW.out]; exact HO.out, HF.out⟩
        case measure => simp [intOf]; omega
      · rw [if_neg hx] at hws
        have HW := Lib.hid hws
        have hb : (x != y) = true := by simpa using hx
        have hml : L.length + 1 ≤ maxLen := by unfold maxLen; omega
        clear hws
        go_wp2_with (at_builtin; refine wpList_app rfl (.tmp 19) (.tmp 24) 22 rfl 3 infoInt Tryd.underlying22 rfl (HO.out.alloc _) rfl (rd_one _ _ _ (by simp)) rfl (fun _ _ => rfl) hml (by omega) (by simp; omega) ?_; intro v4 w4 ho4 hf4 hn4; have HO4 := Lib.hid (own_snoc ho4); have HF4 := Lib.hid ((HF.out.alloc _).trans hf4 (fun x hx => .inr (HO.out.ge x hx))); clear ho4 hf4 hn4)
        go_roundw
        case rel => exact ⟨j + 1, by omega, by go_num, by rw [HW.out]; exact HO4.out, HF4.out⟩
        case measure => simp [intOf]; omega
    · obtain rfl : j = m := by omega
      have HO := Lib.hid ho; clear ho
      go_wp2
      go_ret
      refine ⟨_, rfl, ?_, HF.out⟩
      rw [HLL.out]
      exact HO.out

end Go.Proofs.YthopnlnknicgbaaDoor
