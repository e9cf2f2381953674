/- A sketch that comes in by value is opened: its width, its rows. -/
import Derived.Test.YtgpfkaiinbncnaaDoorArgsRows
namespace Go.Proofs.YtgpfkaiinbncnaaDoor
open Go.ChangeShapes Go.WideShapes Go.ChangeAt Go.RowKit

section
variable {H : Type} {enc : TypeId × Value → H} {P : Program} {W : World} {base : Nat}

theorem el_rows {t e g : TypeId} {k : IntKind} {v : Value} {d : DataW H} {p : List MemPlace} {m : Nat}
    (ht : P.underlying t = some (.slice e)) (hc : P.cellsOf e = 1) (hte : P.underlying e = some (.slice g)) (hg : P.underlying g = some (.int k)) (hcg : P.cellsOf g = 1)
    (h : DataW.trod enc P W 0 (fun _ => true) true m t [v] = some (d, p)) (hw : ∀ x ∈ d.weights P t, x ≤ 140737488351232) :
    ∃ (a : Option Addr) (n c : Nat) (V : Nat → Value) (L : Nat → Nat) (F : Nat → Nat → Int), v = .slice a n c ∧ RdF W (.slice a n c) n V ∧ n * P.bytesOf e ≤ 140737488351232 ∧
      (∀ i, i < n → RdF W (V i) (L i) (fun j => .int k (F i j))) ∧ ∀ i, i < n → L i * P.bytesOf g ≤ 140737488351232 := by
  rcases Go.Deep.open_slice1 ht hc h with ⟨hcs, hx⟩ | ⟨x, l, c, mm, n, V, D, Pl, hcs, _, hl, hm, hmm, hx, hcell⟩
  · obtain rfl : v = .slice none 0 0 := by simpa using hcs
    exact ⟨none, 0, 0, fun _ => undef, fun _ => 0, fun _ _ => 0, rfl, .inl ⟨rfl, rfl⟩, by omega, fun i hi => by omega, fun i hi => by omega⟩
  · obtain rfl : v = .slice (some x) l c := by simpa using hcs
    obtain ⟨rfl, _⟩ := Prod.mk.inj hx
    have hmm' : mm = c := by simpa using hmm
    have hww : ∀ y ∈ (DataW.slice ((List.range l).map D) ((List.range (mm - l)).map fun i => D (l + i))).weights P t, y ≤ 140737488351232 := hw
    have hex : ∀ i : Nat, ∃ q : Option Addr × Nat × Nat × (Nat → Int), i < l → V i = .slice q.1 q.2.1 q.2.2.1 ∧ RdF W (.slice q.1 q.2.1 q.2.2.1) q.2.1 (fun j => .int k (q.2.2.2 j)) ∧ q.2.1 * P.bytesOf g ≤ 140737488351232 := by
      intro i
      by_cases hi : i < l
      · obtain ⟨a1, n1, c1, f1, e1, e2, e3, e4, e5⟩ := el_ints hte hg hcg (hcell i (by omega)).2
        refine ⟨(a1, n1, c1, f1), fun _ => ⟨e1, e2, ?_⟩⟩
        rcases e5 with rfl | ⟨x, hx, hle⟩
        · simp
        · refine Nat.le_trans hle (hww x ?_)
          simp only [DataW.weights, ht, List.mem_cons, List.mem_append]
          exact .inr (.inl (weights_all (List.mem_map.2 ⟨i, List.mem_range.2 hi, rfl⟩) hx))
      · exact ⟨(none, 0, 0, fun _ => 0), fun h => by omega⟩
    obtain ⟨Q, hQ⟩ := Classical.skolem.1 hex
    have hs := hww ((((List.range l).map D).length + ((List.range (mm - l)).map fun i => D (l + i)).length) * P.bytesOf e) (by simp [DataW.weights, ht])
    refine ⟨some x, l, c, V, fun i => (Q i).2.1, fun i => (Q i).2.2.2, rfl, .inr ⟨x, c, rfl, hl, hm, fun j hj => (hcell j (by omega)).1⟩, Nat.le_trans (Nat.mul_le_mul_right _ (by simp)) hs, fun i hi => ?_, fun i hi => (hQ i hi).2.2⟩
    rw [(hQ i hi).1]
    exact (hQ i hi).2.1
end

set_option maxRecDepth 100000 in
theorem arg_sketch {H : Type} {enc : TypeId × Value → H} {W : World} {base : Nat} {v : Value} {d : DataW H} {p : List MemPlace} {ts : List TypeId} {ds : List (DataW H)} {j : Nat}
    (hok : Value.okWide Tryd.prog W .any base 24 v) (h : DataW.Trod enc Tryd.prog W 0 (fun _ => true) true 24 v d p)
    (hsz : (DataW.weightsEach Tryd.prog ts ds).all (· ≤ reachBytes) = true) (hts : ts[j]? = some 24) (hds : ds[j]? = some d) :
    ∃ (x : Int) (a : Option Addr) (n c : Nat) (V : Nat → Value) (L : Nat → Nat) (F : Nat → Nat → Int), v = .agg #[.int .i64 x, .slice a n c] ∧ RdF W (.slice a n c) n V ∧ n * 24 ≤ 140737488351232 ∧
      (∀ i, i < n → RdF W (V i) (L i) (fun j => .int .i64 (F i j))) ∧ ∀ i, i < n → L i * 8 ≤ 140737488351232 := by
  obtain ⟨c0, c1, y0, y1, m, rfl, rfl, _, h0, h1⟩ := Go.Joins.open_agg2 Tryd.underlying24 (by kernel_rfl) (by kernel_rfl) hok h
  obtain ⟨x, e1, _, _⟩ := DataW.trod_int Tryd.underlying3 h0
  simp at e1
  subst e1
  have hw : ∀ q ∈ y1.1.weights Tryd.prog 22, q ≤ 140737488351232 := fun q hq => by
    have hm : q ∈ (DataW.agg [y0.1, y1.1]).weights Tryd.prog 24 := by
      rw [DataW.weights, Tryd.underlying24]
      simp only [DataW.weightsEach, List.map_cons, List.mem_append]
      exact .inr (.inl hq)
    have := List.all_eq_true.1 hsz _ (DataW.weights_mem_each hts hds q hm)
    simpa [reachBytes] using of_decide_eq_true this
  obtain ⟨a, n, c, V, L, F, rfl, r1, r2, r3, r4⟩ := el_rows Tryd.underlying22 (by kernel_rfl) Tryd.underlying28 Tryd.underlying3 (by kernel_rfl) h1 hw
  exact ⟨x, a, n, c, V, L, F, rfl, r1, r2, r3, r4⟩

end Go.Proofs.YtgpfkaiinbncnaaDoor
