/- Planned of the reference lets the same ones go; in plain Lean. -/
import Derived.Test.YthopnlnknicgbaaDoorBelady
import Derived.Test.YthopnlnknicgbaaDoorWout
namespace Go.Proofs.YthopnlnknicgbaaDoor

/-- does x go rather than y? -/
def bet (kf : Nat → Int) (m t : Nat) (x y : Int) : Prop := agn kf m t y < agn kf m t x ∨ (agn kf m t x = agn kf m t y ∧ x < y)

instance (kf : Nat → Int) (m t : Nat) (x y : Int) : Decidable (bet kf m t x y) := by unfold bet; infer_instance

/-- which one goes, of the first j -/
def rwv (kf : Nat → Int) (m t : Nat) (T : List Int) : Nat → Int
  | 0 => lg T 0
  | j + 1 => if bet kf m t (lg T j) (rwv kf m t T j) then lg T j else rwv kf m t T j

theorem rwv_spec (kf : Nat → Int) (m t : Nat) (T : List Int) (j : Nat) : ∀ i, i < j → ¬ bet kf m t (lg T i) (rwv kf m t T j) := by
  induction j with
  | zero => intro i hi; omega
  | succ j ih =>
    intro i hi
    unfold rwv
    by_cases hb : bet kf m t (lg T j) (rwv kf m t T j)
    · rw [if_pos hb]
      by_cases hij : i = j
      · subst hij
        unfold bet; omega
      · have := ih i (by omega)
        unfold bet at *
        omega
    · rw [if_neg hb]
      by_cases hij : i = j
      · subst hij; exact hb
      · exact ih i (by omega)

theorem rwv_mem (kf : Nat → Int) (m t : Nat) (T : List Int) (j : Nat) (hj : j ≤ T.length) (h0 : 0 < T.length) : rwv kf m t T j ∈ T := by
  induction j with
  | zero => unfold rwv; rw [lg_lt h0]; exact List.getElem_mem _
  | succ j ih =>
    unfold rwv
    split
    · rw [lg_lt (by omega)]; exact List.getElem_mem _
    · exact ih (by omega)

theorem wst_bet (kf : Nat → Int) (m t : Nat) (l : List Int) (j : Nat) : ∀ i, i < j → ¬ bet kf m t (lg l i) (lg l (wst kf m t l j)) := by
  induction j with
  | zero => intro i hi; omega
  | succ j ih =>
    intro i hi
    unfold wst
    by_cases hb : btr kf m t l j (wst kf m t l j)
    · rw [if_pos hb]
      unfold btr at hb
      by_cases hij : i = j
      · subst hij
        unfold bet; omega
      · have := ih i (by omega)
        unfold bet at *
        omega
    · rw [if_neg hb]
      by_cases hij : i = j
      · subst hij; exact hb
      · exact ih i (by omega)

theorem same_goes (kf : Nat → Int) (m t : Nat) (L T : List Int) (h0 : 0 < L.length) (hTL : ∀ z, z ∈ T ↔ z ∈ L) : lg L (wst kf m t L L.length) = rwv kf m t T T.length := by
  have hw := wst_lt kf m t L L.length L.length (Nat.le_refl _) h0
  have hwm : lg L (wst kf m t L L.length) ∈ L := by rw [lg_lt hw]; exact List.getElem_mem _
  have hT0 : 0 < T.length := List.length_pos_of_mem ((hTL _).2 hwm)
  have hrm := rwv_mem kf m t T T.length (Nat.le_refl _) hT0
  have h1 : ¬ bet kf m t (lg L (wst kf m t L L.length)) (rwv kf m t T T.length) := by
    obtain ⟨i, hi, e⟩ := List.getElem_of_mem ((hTL _).2 hwm)
    have := rwv_spec kf m t T T.length i hi
    rw [lg_lt hi, e] at this
    exact this
  have h2 : ¬ bet kf m t (rwv kf m t T T.length) (lg L (wst kf m t L L.length)) := by
    obtain ⟨i, hi, e⟩ := List.getElem_of_mem ((hTL _).1 hrm)
    have := wst_bet kf m t L L.length i hi
    rw [lg_lt hi, e] at this
    exact this
  unfold bet at h1 h2
  omega

/-- the reference holds what the plan holds -/
def PR (kf : Nat → Int) (m n k : Nat) (T : List Int) : Prop := T.Nodup ∧ ∀ z, z ∈ T ↔ z ∈ pl kf m n k

theorem pr_len {kf : Nat → Int} {m n k : Nat} {T : List Int} (hn : 0 < n) (h : PR kf m n k T) : T.length = (pl kf m n k).length :=
  Nat.le_antisymm (sub_len _ _ h.1 (fun x hx => (h.2 x).1 hx)) (sub_len _ _ (pl_nodup kf m n hn k) (fun x hx => (h.2 x).2 hx))

theorem pr_hit {kf : Nat → Int} {m n k : Nat} {T : List Int} (h : PR kf m n k T) (hx : kf k ∈ T) :
    PR kf m n (k + 1) T ∧ pgo kf m n (k + 1) = pgo kf m n k ∧ pmi kf m n (k + 1) = pmi kf m n k := by
  have hx2 := (h.2 _).1 hx
  have e1 : pl kf m n (k + 1) = if kf k ∈ pl kf m n k then pl kf m n k else if (pl kf m n k).length < n then pl kf m n k ++ [kf k] else (pl kf m n k).set (wst kf m k (pl kf m n k) (pl kf m n k).length) (kf k) := rfl
  have e2 : pgo kf m n (k + 1) = if kf k ∈ pl kf m n k then pgo kf m n k else if (pl kf m n k).length < n then pgo kf m n k else pgo kf m n k ++ [lg (pl kf m n k) (wst kf m k (pl kf m n k) (pl kf m n k).length)] := rfl
  have e3 : pmi kf m n (k + 1) = pmi kf m n k + if kf k ∈ pl kf m n k then 0 else 1 := rfl
  rw [if_pos hx2] at e1 e2 e3
  exact ⟨⟨h.1, by rw [e1]; exact h.2⟩, e2, e3⟩

theorem nodup_snoc {T : List Int} {x : Int} (h : T.Nodup) (hx : x ∉ T) : (T ++ [x]).Nodup := by
  rw [List.nodup_append]
  refine ⟨h, by simp, fun a ha b hb => ?_⟩
  simp at hb
  subst hb
  exact fun e => hx (e ▸ ha)

theorem pr_room {kf : Nat → Int} {m n k : Nat} {T : List Int} (hn : 0 < n) (h : PR kf m n k T) (hx : kf k ∉ T) (hl : T.length ≠ n) :
    PR kf m n (k + 1) (T ++ [kf k]) ∧ pgo kf m n (k + 1) = pgo kf m n k ∧ pmi kf m n (k + 1) = pmi kf m n k + 1 := by
  have hx2 : kf k ∉ pl kf m n k := fun h2 => hx ((h.2 _).2 h2)
  have hll := pr_len hn h
  have hle := pl_len kf m n k
  have hlt : (pl kf m n k).length < n := by omega
  have e1 : pl kf m n (k + 1) = if kf k ∈ pl kf m n k then pl kf m n k else if (pl kf m n k).length < n then pl kf m n k ++ [kf k] else (pl kf m n k).set (wst kf m k (pl kf m n k) (pl kf m n k).length) (kf k) := rfl
  have e2 : pgo kf m n (k + 1) = if kf k ∈ pl kf m n k then pgo kf m n k else if (pl kf m n k).length < n then pgo kf m n k else pgo kf m n k ++ [lg (pl kf m n k) (wst kf m k (pl kf m n k) (pl kf m n k).length)] := rfl
  have e3 : pmi kf m n (k + 1) = pmi kf m n k + if kf k ∈ pl kf m n k then 0 else 1 := rfl
  rw [if_neg hx2] at e1 e2 e3
  rw [if_pos hlt] at e1 e2
  refine ⟨⟨nodup_snoc h.1 hx, fun z => ?_⟩, e2, e3⟩
  rw [e1, List.mem_append, List.mem_append, h.2]

theorem pr_full {kf : Nat → Int} {m n k : Nat} {T : List Int} (hn : 0 < n) (h : PR kf m n k T) (hx : kf k ∉ T) (hl : T.length = n) :
    PR kf m n (k + 1) (wout (rwv kf m k T T.length) T ++ [kf k]) ∧ pgo kf m n (k + 1) = pgo kf m n k ++ [rwv kf m k T T.length] ∧ pmi kf m n (k + 1) = pmi kf m n k + 1 := by
  have hx2 : kf k ∉ pl kf m n k := fun h2 => hx ((h.2 _).2 h2)
  have hll := pr_len hn h
  have hnd := pl_nodup kf m n hn k
  have hlt : ¬ (pl kf m n k).length < n := by omega
  have hsg := same_goes kf m k (pl kf m n k) T (by omega) h.2
  have e1 : pl kf m n (k + 1) = if kf k ∈ pl kf m n k then pl kf m n k else if (pl kf m n k).length < n then pl kf m n k ++ [kf k] else (pl kf m n k).set (wst kf m k (pl kf m n k) (pl kf m n k).length) (kf k) := rfl
  have e2 : pgo kf m n (k + 1) = if kf k ∈ pl kf m n k then pgo kf m n k else if (pl kf m n k).length < n then pgo kf m n k else pgo kf m n k ++ [lg (pl kf m n k) (wst kf m k (pl kf m n k) (pl kf m n k).length)] := rfl
  have e3 : pmi kf m n (k + 1) = pmi kf m n k + if kf k ∈ pl kf m n k then 0 else 1 := rfl
  rw [if_neg hx2] at e1 e2 e3
  rw [if_neg hlt] at e1 e2
  have hw := wst_lt kf m k (pl kf m n k) (pl kf m n k).length (pl kf m n k).length (Nat.le_refl _) (by omega)
  rw [hsg] at e2
  have hTm := h.2
  rw [← hsg]
  generalize wst kf m k (pl kf m n k) (pl kf m n k).length = w at *
  have hnT : kf k ∉ wout (lg (pl kf m n k) w) T := fun h2 => hx (List.mem_filter.1 h2).1
  refine ⟨⟨nodup_snoc (h.1.filter _) hnT, fun z => ?_⟩, by rw [e2, hsg], e3⟩
  rw [e1, List.mem_append]
  generalize pl kf m n k = l at *
  generalize kf k = s at *
  rw [lg_lt hw]
  unfold wout
  rw [List.mem_filter, hTm]
  constructor
  · rintro (⟨h1, h2⟩ | h1)
    · have hne : z ≠ l[w] := by simpa using h2
      obtain ⟨j, hj, ez⟩ := List.getElem_of_mem h1
      have hjw : j ≠ w := fun h => by
        apply hne
        rw [← ez]
        simp only [h]
      rw [← ez]
      have : (l.set w s)[j]'(by rw [List.length_set]; exact hj) = l[j] := List.getElem_set_ne (by omega) _
      rw [← this]
      exact List.getElem_mem _
    · simp at h1
      subst h1
      exact List.mem_set hw _
  · intro hz
    obtain ⟨j, hj, ez⟩ := List.getElem_of_mem hz
    rw [List.length_set] at hj
    by_cases hjw : j = w
    · subst hjw
      rw [List.getElem_set_self] at ez
      right; simp [ez]
    · rw [List.getElem_set_ne (by omega)] at ez
      left
      rw [← ez]
      refine ⟨List.getElem_mem _, ?_⟩
      simp only [decide_eq_true_eq]
      exact fun e2 => hjw (nd_inj hnd hj hw e2)

end Go.Proofs.YthopnlnknicgbaaDoor
