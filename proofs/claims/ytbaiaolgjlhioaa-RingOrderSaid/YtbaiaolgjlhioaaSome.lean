/- some: those nodes that are in. -/
import Derived.Test.YtbaiaolgjlhioaaPairsSort
import Derived.Test.YtbaiaolgjlhioaaNodes
namespace Go.Proofs.Ytbaiaolgjlhioaa
open Go.RowKit Go.Sort

theorem infoNode : (Try.prog.info? 29).map (fun i => (i.zero, i.size, i.bytes)) = some (some (.agg #[.int .i64 0, .int .i64 0]), 2, 16) := by kernel_rfl

/-- those of the first k that g lets in -/
def som (p : Nat → Int × Int) (g : Nat → Bool) : Nat → List (Int × Int)
  | 0 => []
  | k + 1 => som p g k ++ (if g k then [p k] else [])

theorem som_len (p : Nat → Int × Int) (g : Nat → Bool) (k : Nat) : (som p g k).length ≤ k := by
  induction k with
  | zero => simp [som]
  | succ k ih => simp only [som, List.length_append]; split <;> simp <;> omega

theorem som_mem (p : Nat → Int × Int) (g : Nat → Bool) (k : Nat) (x : Int × Int) : x ∈ som p g k ↔ ∃ j, j < k ∧ g j = true ∧ x = p j := by
  induction k with
  | zero => simp [som]
  | succ k ih =>
    simp only [som, List.mem_append, ih]
    constructor
    · rintro (⟨j, h1, h2, h3⟩ | h)
      · exact ⟨j, by omega, h2, h3⟩
      · by_cases hg : g k = true
        · rw [if_pos hg, List.mem_singleton] at h
          exact ⟨k, by omega, hg, h⟩
        · rw [if_neg hg] at h
          cases h
    · rintro ⟨j, h1, h2, h3⟩
      by_cases hj : j = k
      · subst hj
        rw [if_pos h2]
        exact .inr (by simp [h3])
      · exact .inl ⟨j, by omega, h2, h3⟩

theorem app2_one (w : World) (B : Nat) (E : TypeId) (v : Value) (L : List (Int × Int)) (x : Int × Int) (h : OwnP w B E v (L.length + 1) (app2 L.length (lp L) (fun _ => x))) : OwnP w B E v (L ++ [x]).length (lp (L ++ [x])) := by
  have e : (L ++ [x]).length = L.length + 1 := by simp
  rw [e]
  refine h.congr (fun j hj => ?_)
  have := lp_app L [x] j (by simpa using hj)
  rw [← this]
  unfold app2
  by_cases hl : j < L.length
  · rw [if_pos hl, if_pos hl]
  · rw [if_neg hl, if_neg hl]
    have : j - L.length = 0 := by omega
    rw [this]
    rfl

set_option maxHeartbeats 4000000 in
set_option maxRecDepth 100000 in
theorem some_any (w : World) (a : Option Addr) (n c : Nat) (p : Nat → Int × Int) (hv : RdP w (.slice a n c) n p) (hn : n * 16 ≤ 140737488351232) (b2 : Option Addr) (m c2 : Nat) (f : Nat → Bool) (hf : RdF w (.slice b2 m c2) m (fun j => .bool (f j))) :
    Calls Try.prog 11 #[.slice a n c, .slice b2 m c2] w fun e w' => ∃ v, e = .returned v ∧ OwnP w' w.heap.size 29 v (som p (fun j => decide (j < m) && f j) n).length (lp (som p (fun j => decide (j < m) && f j) n)) ∧ Fr [] w w' := by
  obtain ⟨G, hG⟩ : ∃ G : Nat → Bool, G = fun j => decide (j < m) && f j := ⟨_, rfl⟩
  rw [← hG]
  have HG := Lib.hid hG; clear hG
  have HV := Lib.hid hv; clear hv
  have HB := Lib.hid hf; clear hf
  go_enter Try.func11, Try.ntmps11
  go_wp2
  go_loopw [5, 6] (fun v vi wr => ∃ i : Nat, i ≤ n ∧ vi = .int .i64 i ∧ OwnP wr w.heap.size 29 v (som p G i).length (lp (som p G i)) ∧ Fr [] w wr) (fun _ vi _ => n - (intOf vi).toNat)
  case atStart => exact ⟨0, by omega, rfl, OwnP.nil _ _ _ _, Fr.refl _ _⟩
  case round =>
    obtain ⟨i, hi, rfl, hO, hf⟩ := hrel
    have HO := Lib.hid hO; clear hO
    have HF := Lib.hid hf; clear hf
    by_cases hlt : i < n
    · obtain ⟨b, o, cap', he, hnc, hcm, hbw, hc⟩ := HV.out.shape (by omega)
      simp only [Value.slice.injEq, true_and] at he
      obtain ⟨rfl, rfl⟩ := he
      obtain ⟨k0, k1⟩ := hc i hlt
      have c0 := HF.out.cell k0 (by simp)
      have c1 := HF.out.cell k1 (by simp)
      clear hc k0 k1
      have hlen := som_len p G i
      by_cases hg : G i = true
      · have hg2 := hg
        rw [HG.out] at hg2
        simp only [Bool.and_eq_true, decide_eq_true_eq] at hg2
        obtain ⟨him, hfi⟩ := hg2
        obtain ⟨b', o', cap2, he2, _, _, _, hc2⟩ := HB.out.shape (by omega)
        simp only [Value.slice.injEq, true_and] at he2
        obtain ⟨rfl, rfl⟩ := he2
        have d0 := HF.out.cell (hc2 i him) (by simp)
        rw [hfi] at d0
        clear hc2
        have z0 : (0 : Int) ≤ (i : Int) := by omega
        have z1 : (i : Int) < (m : Int) := by omega
        have hl1 : (som p G i).length + 1 ≤ maxLen := by unfold maxLen; omega
        have hl2 : ((som p G i).length + 1) * 16 ≤ 140737488355328 := by omega
        have hsz := HF.out.size
        have HGI := Lib.hid hg; clear hg hfi
        go_wp2_with (at_builtin; refine wpList_app2 rfl (.tmp 23) (.tmp 28) 22 rfl 29 infoNode Try.underlying22 rfl (HO.out.kept ((Fr.refl [] wr).alloc _) (by simp)) rfl (rdp_one _ _ _ _ (by simp)) rfl hl1 hl2 (by simp; omega) ?_; intro v5 w5 ho5 hf5 hn5)
        have HO5 := Lib.hid (show OwnP w5 w.heap.size 29 v5 (som p G (i + 1)).length (lp (som p G (i + 1))) by
          have e : som p G (i + 1) = som p G i ++ [p i] := by simp only [som]; rw [if_pos HGI.out]
          rw [e]
          exact app2_one _ _ _ _ _ _ ho5)
        have HF5 := Lib.hid ((HF.out.alloc (.cells #[.int .i64 (p i).1, .int .i64 (p i).2] 29)).trans hf5 (fun x hx => .inr (HO.out.ge x hx)))
        clear ho5 hf5 hn5
        go_roundw
        case rel => exact ⟨i + 1, by omega, by go_num, HO5.out, HF5.out⟩
        case measure => simp [intOf]; omega
      · have HO5 := Lib.hid (show OwnP wr w.heap.size 29 _ (som p G (i + 1)).length (lp (som p G (i + 1))) by
          have e : som p G (i + 1) = som p G i := by simp only [som]; rw [if_neg hg, List.append_nil]
          rw [e]
          exact HO.out)
        by_cases him : i < m
        · have hfi : f i = false := by
            rw [HG.out] at hg
            simpa [him] using hg
          obtain ⟨b', o', cap2, he2, _, _, _, hc2⟩ := HB.out.shape (by omega)
          simp only [Value.slice.injEq, true_and] at he2
          obtain ⟨rfl, rfl⟩ := he2
          have d0 := HF.out.cell (hc2 i him) (by simp)
          rw [hfi] at d0
          clear hc2 hfi hg
          have z0 : (0 : Int) ≤ (i : Int) := by omega
          have z1 : (i : Int) < (m : Int) := by omega
          go_wp2
          go_roundw
          case rel => exact ⟨i + 1, by omega, by go_num, HO5.out, HF.out⟩
          case measure => simp [intOf]; omega
        · have z1 : decide (i < m) = false := by simpa using him
          clear hg
          go_wp2
          go_roundw
          case rel => exact ⟨i + 1, by omega, by go_num, HO5.out, HF.out⟩
          case measure => simp [intOf]; omega
    · obtain rfl : i = n := by omega
      go_wp2
      go_ret
      exact ⟨_, rfl, HO.out, HF.out⟩

end Go.Proofs.Ytbaiaolgjlhioaa
