/- some: those nodes that are in. -/
import Derived.Test.YtbaiaolgjlhioaaSom
namespace Go.Proofs.Ytbaiaolgjlhioaa
open Go.RowKit Go.Sort

set_option maxHeartbeats 4000000 in
set_option maxRecDepth 100000 in
theorem some_any (w : World) (a : Option Addr) (n c : Nat) (p : Nat → Int × Int) (hv : RdP w (.slice a n c) n p) (hn : n * 16 ≤ 140737488351232) (b2 : Option Addr) (m c2 : Nat) (f : Nat → Bool) (hf : RdF w (.slice b2 m c2) m (fun j => .bool (f j))) :
    Calls Try.prog 11 #[.slice a n c, .slice b2 m c2] w fun e w' => ∃ v, e = .returned v ∧ OwnP w' w.heap.size 29 v (som p (fun j => decide (j < m) && f j) n).length (lp (som p (fun j => decide (j < m) && f j) n)) ∧ Fr [] w w' := by
  obtain ⟨G, hG⟩ : ∃ G : Nat → Bool, G = fun j => decide (j < m) && f j := ⟨_, rfl⟩
  rw [← hG]
  have HG := Lib.hid hG; clear hG
  have HV := Lib.hid hv; clear hv
  have HB := Lib.hid hf; clear hf
  go_enter Try.func11, Try.ntmps11
  go_wp2
  go_loopw [5, 6] (fun v vi wr => ∃ i : Nat, i ≤ n ∧ vi = .int .i64 i ∧ OwnP wr w.heap.size 29 v (som p G i).length (lp (som p G i)) ∧ Fr [] w wr) (fun _ vi _ => n - (intOf vi).toNat)
  case atStart => exact ⟨0, by omega, rfl, OwnP.nil _ _ _ _, Fr.refl _ _⟩
  case round =>
    obtain ⟨i, hi, rfl, hO, hf⟩ := hrel
    have HO := Lib.hid hO; clear hO
    have HF := Lib.hid hf; clear hf
    by_cases hlt : i < n
    · obtain ⟨b, o, cap', he, hnc, hcm, hbw, hc⟩ := HV.out.shape (by omega)
      simp only [Value.slice.injEq, true_and] at he
      obtain ⟨rfl, rfl⟩ := he
      obtain ⟨k0, k1⟩ := hc i hlt
      have c0 := HF.out.cell k0 (by simp)
      have c1 := HF.out.cell k1 (by simp)
      clear hc k0 k1
      have hlen := som_len p G i
      by_cases hg : G i = true
      · have hg2 := hg
        rw [HG.out] at hg2
        simp only [Bool.and_eq_true, decide_eq_true_eq] at hg2
        obtain ⟨him, hfi⟩ := hg2
        obtain ⟨b', o', cap2, he2, _, _, _, hc2⟩ := HB.out.shape (by omega)
        simp only [Value.slice.injEq, true_and] at he2
        obtain ⟨rfl, rfl⟩ := he2
        have d0 := HF.out.cell (hc2 i him) (by simp)
        rw [hfi] at d0
        clear hc2
        have z0 : (0 : Int) ≤ (i : Int) := by omega
        have z1 : (i : Int) < (m : Int) := by omega
        have hl1 : (som p G i).length + 1 ≤ maxLen := by unfold maxLen; omega
        have hl2 : ((som p G i).length + 1) * 16 ≤ 140737488355328 := by omega
        have hsz := HF.out.size
        have HGI := Lib.hid hg; clear hg hfi
        go_wp2_with (at_builtin; refine wpList_app2 rfl (.tmp 23) (.tmp 28) 22 rfl 29 infoNode Try.underlying22 rfl (HO.out.kept ((Fr.refl [] wr).alloc _) (by simp)) rfl (rdp_one _ _ _ _ (by simp)) rfl hl1 hl2 (by simp; omega) ?_; intro v5 w5 ho5 hf5 hn5)
        have HO5 := Lib.hid (show OwnP w5 w.heap.size 29 v5 (som p G (i + 1)).length (lp (som p G (i + 1))) by
          have e : som p G (i + 1) = som p G i ++ [p i] := by simp only [som]; rw [if_pos HGI.out]
          rw [e]
          exact app2_one _ _ _ _ _ _ ho5)
        have HF5 := Lib.hid ((HF.out.alloc (.cells #[.int .i64 (p i).1, .int .i64 (p i).2] 29)).trans hf5 (fun x hx => .inr (HO.out.ge x hx)))
        clear ho5 hf5 hn5
        go_roundw
        case rel => exact ⟨i + 1, by omega, by go_num, HO5.out, HF5.out⟩
        case measure => simp [intOf]; omega
      · have HO5 := Lib.hid (show OwnP wr w.heap.size 29 _ (som p G (i + 1)).length (lp (som p G (i + 1))) by
          have e : som p G (i + 1) = som p G i := by simp only [som]; rw [if_neg hg, List.append_nil]
          rw [e]
          exact HO.out)
        by_cases him : i < m
        · have hfi : f i = false := by
            rw [HG.out] at hg
            simpa [him] using hg
          obtain ⟨b', o', cap2, he2, _, _, _, hc2⟩ := HB.out.shape (by omega)
          simp only [Value.slice.injEq, true_and] at he2
          obtain ⟨rfl, rfl⟩ := he2
          have d0 := HF.out.cell (hc2 i him) (by simp)
          rw [hfi] at d0
          clear hc2 hfi hg
          have z0 : (0 : Int) ≤ (i : Int) := by omega
          have z1 : (i : Int) < (m : Int) := by omega
          go_wp2
          go_roundw
          case rel => exact ⟨i + 1, by omega, by go_num, HO5.out, HF.out⟩
          case measure => simp [intOf]; omega
        · have z1 : decide (i < m) = false := by simpa using him
          clear hg
          go_wp2
          go_roundw
          case rel => exact ⟨i + 1, by omega, by go_num, HO5.out, HF.out⟩
          case measure => simp [intOf]; omega
    · obtain rfl : i = n := by omega
      go_wp2
      go_ret
      exact ⟨_, rfl, HO.out, HF.out⟩

end Go.Proofs.Ytbaiaolgjlhioaa
