/- The order of some nodes is that of all, without the others; places by counting: the plain law. -/
import Derived.Test.YtbaiaolgjlhioaaDoorRendLaw
import Derived.Test.YtbaiaolgjlhioaaDoorNodes
import Derived.Test.YtbaiaolgjlhioaaDoorSom
namespace Go.Proofs.YtbaiaolgjlhioaaDoor
open Go.RowKit Go.Sort

def ordl (p : Nat → Int × Int) (m : Nat) (kf : Nat → Int) (n : Nat) : List Int := (srr (scs p m kf n)).map (·.2)

theorem ordl_len (p : Nat → Int × Int) (m : Nat) (kf : Nat → Int) (n : Nat) : (ordl p m kf n).length = n := by simp [ordl, srr_len, scs_len]

theorem ordl_get (p : Nat → Int × Int) (m : Nat) (kf : Nat → Int) (n j : Nat) (hj : j < n) : (ordl p m kf n).getD j 0 = (lp (srr (scs p m kf n)) j).2 := by
  have h : j < (srr (scs p m kf n)).length := by rw [srr_len, scs_len]; exact hj
  unfold ordl
  rw [lp_get h, List.getD_eq_getElem?_getD, List.getElem?_map, List.getElem?_eq_getElem h]
  rfl

/-- those of the first i that g lets by -/
def wl (g : Int → Bool) (o : Nat → Int) : Nat → List Int
  | 0 => []
  | i + 1 => wl g o i ++ (if g (o i) = true then [o i] else [])

theorem wl_filter (g : Int → Bool) (o : Nat → Int) (n : Nat) : wl g o n = ((List.range n).map o).filter g := by
  induction n with
  | zero => rfl
  | succ n ih =>
    rw [List.range_succ, List.map_append, List.filter_append, ← ih]
    simp only [wl, List.map_cons, List.map_nil, List.filter_cons, List.filter_nil]

theorem wl_congr (g : Int → Bool) (o o' : Nat → Int) (n : Nat) (h : ∀ i, i < n → o i = o' i) : wl g o n = wl g o' n := by
  induction n with
  | zero => rfl
  | succ n ih => simp only [wl]; rw [ih fun i hi => h i (by omega), h n (by omega)]

theorem wl_len (g : Int → Bool) (o : Nat → Int) (n : Nat) : (wl g o n).length ≤ n := by
  induction n with
  | zero => simp [wl]
  | succ n ih => simp only [wl, List.length_append]; split <;> simp <;> omega

theorem range_getD (L : List Int) (n : Nat) (h : L.length = n) : (List.range n).map (fun i => L.getD i 0) = L := by
  apply List.ext_getElem?
  intro i
  by_cases hi : i < n
  · rw [List.getElem?_map, List.getElem?_range hi, List.getElem?_eq_getElem (by omega)]
    simp [List.getD_eq_getElem?_getD, List.getElem?_eq_getElem (show i < L.length by omega)]
  · rw [List.getElem?_eq_none (by simp; omega), List.getElem?_eq_none (by omega)]

/-- what the law gathers out of all is the order of those -/
theorem wl_ordl (p q : Nat → Int × Int) (m : Nat) (kf : Nat → Int) (n t : Nat) (g : Int → Bool) (o : Nat → Int) (ho : ∀ j, j < n → o j = (lp (srr (scs p m kf n)) j).2) (hq : (scs p m kf n).filter (fun x => g x.2) = scs q m kf t) :
    wl g o n = ordl q m kf t := by
  have e1 : wl g o n = wl g (fun j => (ordl p m kf n).getD j 0) n := wl_congr _ _ _ _ fun i hi => by rw [ho i hi, ordl_get p m kf n i hi]
  rw [e1, wl_filter, range_getD _ n (ordl_len p m kf n)]
  unfold ordl
  rw [← hq, ← srr_filter, List.filter_map]
  rfl

theorem scs_congr (p q : Nat → Int × Int) (m : Nat) (kf : Nat → Int) (n : Nat) (h : ∀ i, i < n → p i = q i) : scs p m kf n = scs q m kf n := by
  unfold scs
  exact List.map_congr_left fun i hi => by rw [h i (List.mem_range.1 hi)]

theorem filter_all {L : List (Int × Int)} {f : Int × Int → Bool} (h : ∀ x ∈ L, f x = true) : L.filter f = L := List.filter_eq_self.2 h

/-- those nodes that G lets in -/
theorem scs_som (p : Nat → Int × Int) (m : Nat) (kf : Nat → Int) (G : Nat → Bool) (f : Int × Int → Bool) (n : Nat) (hf : ∀ i, i < n → f (sco (p i) m kf, (p i).1) = G i) :
    (scs p m kf n).filter f = (som p G n).map (fun q => (sco q m kf, q.1)) := by
  induction n with
  | zero => rfl
  | succ n ih =>
    rw [scs_succ, List.filter_append, ih fun i hi => hf i (by omega)]
    simp only [som, List.map_append, List.filter_cons, List.filter_nil]
    rw [hf n (by omega)]
    by_cases h : G n = true
    · rw [if_pos h, if_pos h]; rfl
    · rw [if_neg h, if_neg h]; rfl

theorem scs_list (L : List (Int × Int)) (m : Nat) (kf : Nat → Int) : scs (lp L) m kf L.length = L.map (fun q => (sco q m kf, q.1)) := by
  unfold scs
  apply List.ext_getElem?
  intro i
  by_cases hi : i < L.length
  · rw [List.getElem?_map, List.getElem?_map, List.getElem?_range hi, List.getElem?_eq_getElem hi]
    simp [lp_get hi]
  · rw [List.getElem?_eq_none (by simp; omega), List.getElem?_eq_none (by simp; omega)]

/-- strictly one behind the other -/
theorem srr_strict {L : List (Int × Int)} (hne : (L.map (·.2)).Nodup) : (srr L).Pairwise (fun x y => ltOf cfr x y = true) := by
  have h1 := srr_pair L
  have h2 : (srr L).Pairwise (fun x y => x.2 ≠ y.2) := by
    have : ((srr L).map (·.2)).Nodup := (((srr_perm L).map _).nodup_iff).2 hne
    rw [List.Nodup, List.pairwise_map] at this
    exact this
  refine (h1.and h2).imp fun {x y} h => ?_
  obtain ⟨h3, h4⟩ := h
  simp only [Bool.not_eq_true'] at h3
  rw [lt_cfr] at h3 ⊢
  simp only [decide_eq_false_iff_not] at h3
  simp only [decide_eq_true_eq]
  omega

theorem place_of {S : List (Int × Int)} (hs : S.Pairwise (fun x y => ltOf cfr x y = true)) (j : Nat) (hj : j < S.length) : S.countP (fun y => ltOf cfr y (lp S j)) = j := by
  have hp := List.pairwise_iff_getElem.1 hs
  have e : S = S.take j ++ (S[j] :: S.drop (j + 1)) := by rw [← List.drop_eq_getElem_cons hj, List.take_append_drop]
  rw [lp_get hj]
  rw [show S.countP (fun y => ltOf cfr y S[j]) = (S.take j ++ (S[j] :: S.drop (j + 1))).countP (fun y => ltOf cfr y S[j]) from congrArg (fun T => List.countP (fun y => ltOf cfr y S[j]) T) e]
  rw [List.countP_append, List.countP_cons]
  have h1 : (S.take j).countP (fun y => ltOf cfr y S[j]) = j := by
    have : (S.take j).countP (fun y => ltOf cfr y S[j]) = (S.take j).length := by
      rw [List.countP_eq_length]
      intro a ha
      obtain ⟨i, hi, e⟩ := List.getElem_of_mem ha
      rw [List.length_take] at hi
      have := hp i j (by omega) hj (by omega)
      rw [← e, List.getElem_take]
      exact this
    rw [this, List.length_take]
    omega
  have h2 : (S.drop (j + 1)).countP (fun y => ltOf cfr y S[j]) = 0 := by
    rw [List.countP_eq_zero]
    intro a ha
    obtain ⟨i, hi, e⟩ := List.getElem_of_mem ha
    rw [List.length_drop] at hi
    have := hp j (j + 1 + i) hj (by omega) (by omega)
    rw [← e, List.getElem_drop]
    intro h
    have h3 := swor.trans _ _ _ this h
    rw [swor.irrefl] at h3
    cases h3
  rw [h1, h2, swor.irrefl]
  simp

/-- each stands where so many are ahead of it -/
theorem srr_place {L : List (Int × Int)} (hne : (L.map (·.2)).Nodup) (j : Nat) (hj : j < L.length) : L.countP (fun y => ltOf cfr y (lp (srr L) j)) = j := by
  rw [← (srr_perm L).countP_eq]
  exact place_of (srr_strict hne) j (by rw [srr_len]; exact hj)

theorem scs_nodup {p : Nat → Int × Int} {n : Nat} (hp : NGood p n) (m : Nat) (kf : Nat → Int) : ((scs p m kf n).map (·.2)).Nodup := by
  rw [List.Nodup, List.pairwise_map, List.pairwise_iff_getElem]
  intro i j hi hj hij
  have hi' : i < n := by rw [scs_len] at hi; exact hi
  have hj' : j < n := by rw [scs_len] at hj; exact hj
  simp only [scs, List.getElem_map, List.getElem_range]
  intro e
  have := hp.ne i j hi' hj' e
  omega

/-- of each node: where it stands -/
theorem srr_at {p : Nat → Int × Int} {n : Nat} (hp : NGood p n) (m : Nat) (kf : Nat → Int) (k : Nat) (hk : k < n) :
    ∃ j, j < n ∧ lp (srr (scs p m kf n)) j = (sco (p k) m kf, (p k).1) ∧ j = (scs p m kf n).countP (fun y => ltOf cfr y (sco (p k) m kf, (p k).1)) := by
  have hm : (sco (p k) m kf, (p k).1) ∈ srr (scs p m kf n) := (srr_mem _ _).2 ((scs_mem p m kf n _).2 ⟨k, hk, rfl⟩)
  obtain ⟨j, hj, e⟩ := List.getElem_of_mem hm
  have hj' : j < n := by rw [srr_len, scs_len] at hj; exact hj
  have e2 : lp (srr (scs p m kf n)) j = (sco (p k) m kf, (p k).1) := by rw [lp_get hj, e]
  refine ⟨j, hj', e2, ?_⟩
  have := srr_place (scs_nodup hp m kf) j (by rw [scs_len]; exact hj')
  rw [e2] at this
  exact this.symm

theorem srr_of_id {p : Nat → Int × Int} {n : Nat} (hp : NGood p n) (m : Nat) (kf : Nat → Int) (k j : Nat) (hk : k < n) (hj : j < n) (h : (lp (srr (scs p m kf n)) j).2 = (p k).1) : lp (srr (scs p m kf n)) j = (sco (p k) m kf, (p k).1) := by
  have hm : lp (srr (scs p m kf n)) j ∈ scs p m kf n := (srr_mem _ _).1 (lp_mem (by rw [srr_len, scs_len]; exact hj))
  obtain ⟨i, hi, e⟩ := (scs_mem p m kf n _).1 hm
  rw [e] at h ⊢
  obtain rfl := hp.ne i k hi hk h
  rfl

/-- who weighs more comes no later -/
theorem heavy_place {p : Nat → Int × Int} {n k : Nat} {more : Int} (m : Nat) (kf : Nat → Int) (hk : k < n) (hp : NGood p n) (hq : NGood (fun j => if j = k then ((p k).1, more) else p j) n) (hm : (p k).2 ≤ more) (i : Nat) (hi : i < n) (hoi : (lp (srr (scs p m kf n)) i).2 = (p k).1) :
    ∃ j, j ≤ i ∧ (lp (srr (scs (fun j => if j = k then ((p k).1, more) else p j) m kf n)) j).2 = (p k).1 := by
  have e1 := srr_of_id hp m kf k i hk hi hoi
  have c1 := srr_place (scs_nodup hp m kf) i (by rw [scs_len]; exact hi)
  rw [e1] at c1
  obtain ⟨j, hj, e2, c2⟩ := srr_at hq m kf k hk
  simp only [if_pos] at e2 c2
  refine ⟨j, ?_, by rw [e2]⟩
  rw [c2, ← c1]
  unfold scs
  rw [List.countP_map, List.countP_map]
  refine List.countP_mono_left fun x hx h => ?_
  have hx' : x < n := List.mem_range.1 hx
  simp only [Function.comp] at h ⊢
  have hmo := sco_mono (p k).1 (p k).2 more m kf hm
  have ep : ((p k).1, (p k).2) = p k := rfl
  rw [ep] at hmo
  by_cases hxk : x = k
  · subst hxk
    simp only [if_pos] at h
    rw [swor.irrefl] at h
    cases h
  · simp only [if_neg hxk] at h
    rw [lt_cfr] at h ⊢
    simp only [decide_eq_true_eq] at h ⊢
    omega

end Go.Proofs.YtbaiaolgjlhioaaDoor
