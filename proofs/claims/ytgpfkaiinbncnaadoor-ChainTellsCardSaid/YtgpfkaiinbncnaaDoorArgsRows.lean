/- Slices of slices of integers as arguments, and what the bound on the bulk gives. -/
import Derived.Test.YtgpfkaiinbncnaaDoorArgs
namespace Go.Proofs.YtgpfkaiinbncnaaDoor
open Go.ChangeShapes Go.WideShapes Go.ChangeAt Go.RowKit

theorem bulk_one {H : Type} (d : DataW H) : 1 ≤ Rows.uptoBulk d := by
  cases d with
  | lit l => cases l <;> simp [Rows.uptoBulk]
  | _ => simp [Rows.uptoBulk]

theorem bulk_app {H : Type} (l r : List (DataW H)) : Rows.uptoBulkAll (l ++ r) = Rows.uptoBulkAll l + Rows.uptoBulkAll r := by
  induction l with
  | nil => simp [Rows.uptoBulkAll]
  | cons x l ih => simp only [List.cons_append, Rows.uptoBulkAll, ih]; omega

theorem bulk_len {H : Type} (l : List (DataW H)) : l.length ≤ Rows.uptoBulkAll l := by
  induction l with
  | nil => simp [Rows.uptoBulkAll]
  | cons x r ih => have := bulk_one x; simp only [Rows.uptoBulkAll, List.length_cons]; omega

theorem bulk_slice {H : Type} (el sp : List (DataW H)) : el.length + 1 ≤ Rows.uptoBulk (.slice el sp) ∧ Rows.uptoBulkAll el + 1 ≤ Rows.uptoBulk (.slice el sp) := by
  have h1 := bulk_len el
  simp only [Rows.uptoBulk]
  omega

theorem bulk_bound {H : Type} {l : List (DataW H)} (hk : Rows.uptoSmall H l = true) : Rows.uptoBulkAll l ≤ 1048576 := by
  simpa [Rows.uptoSmall] using hk

/-- the bulk of an integers' slice, as 'arg_ints' hands its shape on -/
theorem bulk_ints {H : Type} {d : DataW H} {n : Nat} (h : (d = .nil ∧ n = 0) ∨ ∃ el sp, d = .slice el sp ∧ el.length = n) : n + 1 ≤ Rows.uptoBulk d := by
  rcases h with ⟨rfl, rfl⟩ | ⟨el, sp, rfl, rfl⟩
  · simp [Rows.uptoBulk]
  · exact (bulk_slice el sp).1

/-- the rows' lengths, one more each -/
def sm (L : Nat → Nat) : Nat → Nat
  | 0 => 0
  | i + 1 => sm L i + (L i + 1)

theorem sm_le (L : Nat → Nat) {i k : Nat} (h : i ≤ k) : sm L i ≤ sm L k := by
  induction k with
  | zero => rw [show i = 0 by omega]; exact Nat.le_refl _
  | succ k ih =>
    by_cases hik : i = k + 1
    · rw [hik]; exact Nat.le_refl _
    · have := ih (by omega); simp only [sm]; omega

section
variable {H : Type} {enc : TypeId × Value → H} {P : Program} {W : World} {base : Nat}

theorem sm_bulk {L : Nat → Nat} {D : Nat → DataW H} (n : Nat) (h : ∀ i, i < n → L i + 1 ≤ Rows.uptoBulk (D i)) : sm L n ≤ Rows.uptoBulkAll ((List.range n).map D) := by
  induction n with
  | zero => simp [sm]
  | succ n ih =>
    rw [List.range_succ, List.map_append, bulk_app]
    have h1 := ih fun i hi => h i (by omega)
    have h2 := h n (by omega)
    simp only [sm, List.map_cons, List.map_nil, Rows.uptoBulkAll]
    omega

theorem el_ints {e g : TypeId} {k : IntKind} {v : Value} {d : DataW H} {p : List MemPlace} {m : Nat}
    (ht : P.underlying e = some (.slice g)) (he : P.underlying g = some (.int k)) (hc : P.cellsOf g = 1) (h : DataW.trod enc P W 0 (fun _ => true) true m e [v] = some (d, p)) :
    ∃ (a : Option Addr) (n c : Nat) (f : Nat → Int), v = .slice a n c ∧ RdF W (.slice a n c) n (fun j => .int k (f j)) ∧ (∀ j, j < n → (Lit.int k (f j)).wf = true) ∧ n + 1 ≤ Rows.uptoBulk d ∧ (n = 0 ∨ ∃ x ∈ d.weights P e, n * P.bytesOf g ≤ x) := by
  rcases open_ints ht he hc h with ⟨hcs, hx⟩ | ⟨x, l, c, zs, hcs, _, hl, hm, hz, hx, hcell, hwz⟩
  · obtain rfl : v = .slice none 0 0 := by simpa using hcs
    obtain ⟨rfl, _⟩ := Prod.mk.inj hx
    exact ⟨none, 0, 0, fun _ => 0, rfl, .inl ⟨rfl, rfl⟩, fun j hj => by omega, by simp [Rows.uptoBulk], .inl rfl⟩
  · obtain rfl : v = .slice (some x) l c := by simpa using hcs
    obtain ⟨rfl, _⟩ := Prod.mk.inj hx
    have hz' : zs.length = c := by simpa using hz
    refine ⟨some x, l, c, fun j => zs.getD j 0, rfl, .inr ⟨x, c, rfl, hl, hm, fun j hj => hcell j (by omega)⟩, fun j hj => ?_, ?_, .inr ⟨c * P.bytesOf g, ?_, Nat.mul_le_mul_right _ hl⟩⟩
    · have hj' : j < zs.length := by omega
      have : zs.getD j 0 = zs[j] := by simp [List.getD, hj']
      show (Lit.int k (zs.getD j 0)).wf = true
      rw [this]
      exact hwz _ (List.getElem_mem hj')
    · have h1 := (bulk_slice (lits (H := H) k (zs.take l)) (lits k (zs.drop l))).1
      have h2 : (lits (H := H) k (zs.take l)).length = l := by simp [lits]; omega
      omega
    · simp only [DataW.weights, ht, List.mem_cons]
      left
      have h2 : (lits (H := H) k (zs.take l)).length = l := by simp [lits]; omega
      have h3 : (lits (H := H) k (zs.drop l)).length = c - l := by simp [lits]; omega
      rw [h2, h3, show l + (c - l) = c by omega]

theorem weights_all {e : TypeId} {l : List (DataW H)} {d : DataW H} (h : d ∈ l) {x : Nat} (hx : x ∈ d.weights P e) : x ∈ DataW.weightsAll P e l := by
  induction l with
  | nil => cases h
  | cons a l ih =>
    simp only [DataW.weightsAll, List.mem_append]
    rcases List.mem_cons.1 h with rfl | h
    · exact .inl hx
    · exact .inr (ih h)

/-- A slice of slices of integers. -/
theorem arg_rows {t e g : TypeId} {k : IntKind} {bytes : Nat} {v : Value} {d : DataW H} {p : List MemPlace} {ts : List TypeId} {ds : List (DataW H)} {j : Nat}
    (ht : P.underlying t = some (.slice e)) (hc : P.cellsOf e = 1) (hb : P.bytesOf e = bytes)
    (hte : P.underlying e = some (.slice g)) (hg : P.underlying g = some (.int k)) (hcg : P.cellsOf g = 1)
    (hok : Value.okWide P W .any base t v) (h : DataW.Trod enc P W 0 (fun _ => true) true t v d p)
    (hsz : (DataW.weightsEach P ts ds).all (· ≤ reachBytes) = true) (hts : ts[j]? = some t) (hds : ds[j]? = some d) :
    ∃ (a : Option Addr) (n c : Nat) (V : Nat → Value) (A : Nat → Option Addr) (L C : Nat → Nat) (F : Nat → Nat → Int), v = .slice a n c ∧ RdF W (.slice a n c) n V ∧ n * bytes ≤ 140737488351232 ∧
      (∀ i, i < n → V i = .slice (A i) (L i) (C i)) ∧ (∀ i, i < n → RdF W (.slice (A i) (L i) (C i)) (L i) (fun j => .int k (F i j))) ∧ (∀ i j, i < n → j < L i → (Lit.int k (F i j)).wf = true) ∧
      (∀ i, n ≤ i → L i = 0) ∧ n + 1 ≤ Rows.uptoBulk d ∧ sm L n + 1 ≤ Rows.uptoBulk d ∧ ∀ i, i < n → L i * P.bytesOf g ≤ 140737488351232 := by
  obtain ⟨a, n, c, V, rfl, hr, hs, hd⟩ := arg_ones ht hc hb hok h hsz hts hds
  rcases hd with ⟨rfl, rfl⟩ | ⟨m, D, Pl, sp, rfl, hD⟩
  · exact ⟨a, 0, c, V, fun _ => none, fun _ => 0, fun _ => 0, fun _ _ => 0, rfl, hr, hs, fun i hi => by omega, fun i hi => by omega, fun i j hi => by omega, fun _ _ => rfl, by simp [Rows.uptoBulk], by simp [Rows.uptoBulk, sm], fun i hi => by omega⟩
  · have hex : ∀ i : Nat, ∃ q : Option Addr × Nat × Nat × (Nat → Int), (i < n → V i = .slice q.1 q.2.1 q.2.2.1 ∧ RdF W (.slice q.1 q.2.1 q.2.2.1) q.2.1 (fun j => .int k (q.2.2.2 j)) ∧ (∀ j, j < q.2.1 → (Lit.int k (q.2.2.2 j)).wf = true) ∧ q.2.1 + 1 ≤ Rows.uptoBulk (D i) ∧ q.2.1 * P.bytesOf g ≤ 140737488351232) ∧ (n ≤ i → q.2.1 = 0) := by
      intro i
      by_cases hi : i < n
      · obtain ⟨a1, n1, c1, f1, e1, e2, e3, e4, e5⟩ := el_ints hte hg hcg (hD i hi)
        refine ⟨(a1, n1, c1, f1), fun _ => ⟨e1, e2, e3, e4, ?_⟩, fun h => by omega⟩
        rcases e5 with rfl | ⟨x, hx, hle⟩
        · simp
        · refine Nat.le_trans hle ?_
          have hm : x ∈ (DataW.slice ((List.range n).map D) sp).weights P t := by
            simp only [DataW.weights, ht, List.mem_cons, List.mem_append]
            exact .inr (.inl (weights_all (List.mem_map.2 ⟨i, List.mem_range.2 hi, rfl⟩) hx))
          have := List.all_eq_true.1 hsz _ (DataW.weights_mem_each hts hds x hm)
          simpa [reachBytes] using of_decide_eq_true this
      · exact ⟨(none, 0, 0, fun _ => 0), fun h => by omega, fun _ => rfl⟩
    obtain ⟨Q, hQ⟩ := Classical.skolem.1 hex
    have hb1 := bulk_slice ((List.range n).map D) sp
    have hb2 := sm_bulk (L := fun i => (Q i).2.1) (D := D) n (fun i hi => ((hQ i).1 hi).2.2.2.1)
    refine ⟨a, n, c, V, fun i => (Q i).1, fun i => (Q i).2.1, fun i => (Q i).2.2.1, fun i => (Q i).2.2.2, rfl, hr, hs, fun i hi => ((hQ i).1 hi).1, fun i hi => ((hQ i).1 hi).2.1, fun i j hi hj => ((hQ i).1 hi).2.2.1 j hj, fun i hi => (hQ i).2 hi, ?_, by omega, fun i hi => ((hQ i).1 hi).2.2.2.2⟩
    have := hb1.1
    simp at this
    omega

end
end Go.Proofs.YtgpfkaiinbncnaaDoor
