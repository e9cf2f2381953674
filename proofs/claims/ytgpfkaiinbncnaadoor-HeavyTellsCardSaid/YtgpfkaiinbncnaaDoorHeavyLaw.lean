/- Misra and Gries, in plain lists. -/
import Derived.Test.YtgpfkaiinbncnaaDoorMapL
namespace Go.Proofs.YtgpfkaiinbncnaaDoor

def stH (ks : Nat → Int) (k : Nat) : Nat → List (Int × Int)
  | 0 => []
  | i + 1 => kp (stH ks k i) k (ks i)

structure Inv (L : List (Int × Int)) (k i : Nat) : Prop where
  asc : Asc L
  len : L.length ≤ k
  pos : ∀ p ∈ L, 1 ≤ p.2 ∧ p.2 ≤ i

theorem lk_none {L : List (Int × Int)} {x : Int} (h : hasK L x = false) : lk L x = 0 := by
  induction L with
  | nil => rfl
  | cons p L ih =>
    unfold hasK at h ih
    rw [List.any_cons, Bool.or_eq_false_iff] at h
    simp only [lk]
    rw [if_neg (by simpa using h.1), ih h.2]

theorem hasK_mem {L : List (Int × Int)} {x : Int} (h : hasK L x = true) : ∃ p ∈ L, p.1 = x := by
  obtain ⟨p, hp, he⟩ := List.any_eq_true.1 h
  exact ⟨p, hp, by simpa using he⟩
theorem mem_hasK {L : List (Int × Int)} {p : Int × Int} (h : p ∈ L) : hasK L p.1 = true := List.any_eq_true.2 ⟨p, h, by simp⟩

theorem insL_perm {x c : Int} {L : List (Int × Int)} (h : hasK L x = false) : (insL x c L).Perm ((x, c) :: L) := by
  unfold insL
  refine List.perm_middle.trans (List.Perm.cons _ ?_)
  have e : L.filter (fun p => decide (x < p.1)) = L.filter (fun p => !decide (p.1 < x)) := List.filter_congr fun p hp => by
    have hne : p.1 ≠ x := fun e => by
      have := mem_hasK hp
      rw [e, h] at this
      cases this
    rw [Bool.eq_iff_iff]
    simp
    omega
  rw [e]
  exact List.filter_append_perm _ _

theorem mem_insL {x c : Int} {L : List (Int × Int)} {p : Int × Int} (h : p ∈ insL x c L) : p = (x, c) ∨ p ∈ L := by
  unfold insL at h
  rcases List.mem_append.1 h with h | h
  · exact .inr (List.mem_filter.1 h).1
  · rcases List.mem_cons.1 h with h | h
    · exact .inl h
    · exact .inr (List.mem_filter.1 h).1

def sumL (L : List (Int × Int)) : Int := (L.map (·.2)).sum

theorem sumL_cons (p : Int × Int) (L : List (Int × Int)) : sumL (p :: L) = p.2 + sumL L := by simp [sumL]
theorem sumL_perm {L M : List (Int × Int)} (h : L.Perm M) : sumL L = sumL M := by
  induction h with
  | nil => rfl
  | cons x _ ih => rw [sumL_cons, sumL_cons, ih]
  | swap x y l => simp only [sumL_cons]; omega
  | trans _ _ h1 h2 => rw [h1, h2]

theorem kp_has {L : List (Int × Int)} {k : Nat} {x : Int} (h : hasK L x = true) : kp L k x = L.map (fun p => if p.1 = x then (x, lk L x + 1) else p) := by unfold kp; rw [if_pos h]
theorem kp_new {L : List (Int × Int)} {k : Nat} {x : Int} (h : hasK L x = false) (hl : L.length < k) : kp L k x = insL x 1 L := by unfold kp; rw [if_neg (by rw [h]; decide), if_pos hl]
theorem kp_dec {L : List (Int × Int)} {k : Nat} {x : Int} (h : hasK L x = false) (hl : ¬ L.length < k) : kp L k x = (L.map (fun p => (p.1, p.2 - 1))).filter (fun p => !decide (p.2 = 0)) := by unfold kp; rw [if_neg (by rw [h]; decide), if_neg hl]

theorem kp_inv {L : List (Int × Int)} {k i : Nat} (h : Inv L k i) (x : Int) : Inv (kp L k x) k (i + 1) := by
  by_cases hh : hasK L x = true
  · rw [kp_has hh]
    refine ⟨asc_map h.asc _ (fun p _ => by split <;> simp_all), by simpa using h.len, fun p hp => ?_⟩
    obtain ⟨q, hq, rfl⟩ := List.mem_map.1 hp
    have := h.pos q hq
    by_cases e : q.1 = x
    · rw [if_pos e]
      have hl : lk L x = q.2 := by rw [← e]; exact lk_mem h.asc hq
      show 1 ≤ lk L x + 1 ∧ lk L x + 1 ≤ ((i + 1 : Nat) : Int)
      omega
    · rw [if_neg e]
      omega
  · have hf : hasK L x = false := by simpa using hh
    by_cases hl : L.length < k
    · rw [kp_new hf hl]
      refine ⟨asc_insL h.asc, ?_, fun p hp => ?_⟩
      · rw [(insL_perm hf).length_eq]; simp only [List.length_cons]; omega
      · rcases mem_insL hp with rfl | hp
        · show (1 : Int) ≤ 1 ∧ (1 : Int) ≤ ((i + 1 : Nat) : Int)
          omega
        · have := h.pos p hp
          omega
    · rw [kp_dec hf hl]
      refine ⟨List.Pairwise.filter _ (asc_map h.asc _ (fun _ _ => rfl)), Nat.le_trans (List.length_filter_le _ _) (by simpa using h.len), fun p hp => ?_⟩
      obtain ⟨h1, h2⟩ := List.mem_filter.1 hp
      obtain ⟨q, hq, rfl⟩ := List.mem_map.1 h1
      have := h.pos q hq
      have h2' : q.2 - 1 ≠ 0 := by simpa using h2
      show 1 ≤ q.2 - 1 ∧ q.2 - 1 ≤ ((i + 1 : Nat) : Int)
      omega

theorem st_inv (ks : Nat → Int) (k i : Nat) : Inv (stH ks k i) k i := by
  induction i with
  | zero => exact ⟨List.Pairwise.nil, Nat.zero_le _, fun p hp => by simp [stH] at hp⟩
  | succ i ih => exact kp_inv ih _

/-- how often a key came, of the first i -/
def cn (ks : Nat → Int) (x : Int) : Nat → Int
  | 0 => 0
  | i + 1 => cn ks x i + (if ks i = x then 1 else 0)

theorem lk_of_mem {L : List (Int × Int)} (h : Asc L) {p : Int × Int} (hp : p ∈ L) {y : Int} (e : p.1 = y) : lk L y = p.2 := by rw [← e]; exact lk_mem h hp

theorem lk_kp {L : List (Int × Int)} {k i : Nat} (h : Inv L k i) (x y : Int) :
    (hasK L x = true → lk (kp L k x) y = if y = x then lk L x + 1 else lk L y) ∧
    (hasK L x = false → L.length < k → lk (kp L k x) y = if y = x then 1 else lk L y) ∧
    (hasK L x = false → ¬ L.length < k → (hasK L y = true → lk (kp L k x) y = lk L y - 1) ∧ (hasK L y = false → lk (kp L k x) y = 0)) := by
  have hi := kp_inv h x
  refine ⟨fun hh => ?_, fun hf hl => ?_, fun hf hl => ⟨fun hy => ?_, fun hy => ?_⟩⟩
  · have ha := hi.asc
    rw [kp_has hh] at ha ⊢
    by_cases hy : hasK L y = true
    · obtain ⟨p, hp, e⟩ := hasK_mem hy
      have hm : (if p.1 = x then (x, lk L x + 1) else p) ∈ L.map (fun p : Int × Int => if p.1 = x then (x, lk L x + 1) else p) := List.mem_map.2 ⟨p, hp, rfl⟩
      by_cases hyx : y = x
      · rw [if_pos hyx]
        rw [if_pos (by omega)] at hm
        exact lk_of_mem ha hm (by omega)
      · rw [if_neg hyx]
        rw [if_neg (by omega)] at hm
        rw [lk_of_mem ha hm e, lk_of_mem h.asc hp e]
    · have hyf : hasK L y = false := by simpa using hy
      have hyx : y ≠ x := fun e => by rw [e, hh] at hyf; cases hyf
      rw [if_neg hyx, lk_none hyf]
      refine lk_none ?_
      rw [hasK_map _ _ (fun p _ => by split <;> simp_all)]
      exact hyf
  · have ha := hi.asc
    rw [kp_new hf hl] at ha ⊢
    by_cases hyx : y = x
    · rw [if_pos hyx]
      exact lk_of_mem ha (p := (x, 1)) ((insL_perm hf).mem_iff.2 (by simp)) hyx.symm
    · rw [if_neg hyx]
      by_cases hy : hasK L y = true
      · obtain ⟨p, hp, e⟩ := hasK_mem hy
        rw [lk_of_mem ha ((insL_perm hf).mem_iff.2 (List.mem_cons_of_mem _ hp)) e, lk_of_mem h.asc hp e]
      · have hyf : hasK L y = false := by simpa using hy
        rw [lk_none hyf]
        refine lk_none ?_
        cases hq : hasK (insL x 1 L) y
        · rfl
        · obtain ⟨p, hp, e⟩ := hasK_mem hq
          rcases mem_insL hp with rfl | hp
          · exact absurd e.symm hyx
          · have := mem_hasK hp
            rw [e, hyf] at this
            cases this
  · have ha := hi.asc
    rw [kp_dec hf hl] at ha ⊢
    obtain ⟨p, hp, e⟩ := hasK_mem hy
    have hlk := lk_of_mem h.asc hp e
    by_cases hz : p.2 - 1 = 0
    · rw [hlk, hz]
      refine lk_none ?_
      cases hq : hasK ((L.map (fun p => (p.1, p.2 - 1))).filter (fun p => !decide (p.2 = 0))) y
      · rfl
      · obtain ⟨q, hq1, e2⟩ := hasK_mem hq
        obtain ⟨q1, q2⟩ := List.mem_filter.1 hq1
        obtain ⟨r, hr, rfl⟩ := List.mem_map.1 q1
        have := lk_of_mem h.asc hr e2
        have q2' : r.2 - 1 ≠ 0 := by simpa using q2
        omega
    · rw [hlk]
      exact lk_of_mem ha (p := (p.1, p.2 - 1)) (List.mem_filter.2 ⟨List.mem_map.2 ⟨p, hp, rfl⟩, by simpa using hz⟩) e
  · rw [kp_dec hf hl]
    refine lk_none ?_
    cases hq : hasK ((L.map (fun p => (p.1, p.2 - 1))).filter (fun p => !decide (p.2 = 0))) y
    · rfl
    · obtain ⟨q, hq1, e2⟩ := hasK_mem hq
      obtain ⟨q1, q2⟩ := List.mem_filter.1 hq1
      obtain ⟨r, hr, rfl⟩ := List.mem_map.1 q1
      have := mem_hasK hr
      have e3 : r.1 = y := e2
      rw [e3, hy] at this
      cases this

theorem sumL_map_dec (L : List (Int × Int)) : sumL ((L.map (fun p => (p.1, p.2 - 1))).filter (fun p => !decide (p.2 = 0))) = sumL L - L.length := by
  induction L with
  | nil => rfl
  | cons p L ih =>
    rw [List.map_cons, List.filter_cons, sumL_cons, List.length_cons]
    by_cases hz : p.2 - 1 = 0
    · rw [if_neg (by simpa using hz), ih]; omega
    · rw [if_pos (by simpa using hz), sumL_cons, ih]; simp only []; omega

theorem sumL_has {L : List (Int × Int)} {x c : Int} (h : Asc L) (hk : hasK L x = true) (hc : c = lk L x + 1) : sumL (L.map (fun p => if p.1 = x then (x, c) else p)) = sumL L + 1 := by
  induction L with
  | nil => simp [hasK] at hk
  | cons p L ih =>
    obtain ⟨h1, h2⟩ := List.pairwise_cons.1 h
    rw [List.map_cons, sumL_cons, sumL_cons]
    simp only [lk] at hc
    by_cases hp : p.1 = x
    · rw [if_pos hp]
      rw [if_pos hp] at hc
      have e : L.map (fun p => if p.1 = x then (x, c) else p) = L := by
        conv => rhs; rw [← List.map_id L]
        refine List.map_congr_left fun q hq => ?_
        have := h1 q hq
        rw [if_neg (by omega)]; rfl
      rw [e]
      simp only []
      omega
    · rw [if_neg hp] at hc ⊢
      have hL : hasK L x = true := by
        unfold hasK at hk ⊢
        rw [List.any_cons, show (p.1 == x) = false by simpa using hp, Bool.false_or] at hk
        exact hk
      rw [ih h2 hL hc]
      omega

theorem sumL_nonneg {L : List (Int × Int)} (h : ∀ p ∈ L, 1 ≤ p.2) : 0 ≤ sumL L := by
  induction L with
  | nil => exact Int.le_refl _
  | cons p L ih =>
    have := h p (by simp)
    have := ih fun q hq => h q (List.mem_cons_of_mem _ hq)
    rw [sumL_cons]
    omega

/-- so many times all were one less -/
theorem heavy_law (ks : Nat → Int) (k i : Nat) : ∃ d : Int, 0 ≤ d ∧ sumL (stH ks k i) + d * ((k : Int) + 1) = i ∧ ∀ x, lk (stH ks k i) x ≤ cn ks x i ∧ cn ks x i ≤ lk (stH ks k i) x + d := by
  induction i with
  | zero => exact ⟨0, Int.le_refl _, by simp [stH, sumL], fun x => by simp [stH, lk, cn]⟩
  | succ i ih =>
    obtain ⟨d, hd, hs, hb⟩ := ih
    have hv := st_inv ks k i
    have hx := hb (ks i)
    simp only [stH, cn]
    generalize stH ks k i = L at *
    generalize ks i = x at *
    by_cases hh : hasK L x = true
    · refine ⟨d, hd, ?_, fun y => ?_⟩
      · rw [kp_has hh, sumL_has hv.asc hh rfl]; push_cast; omega
      · rw [(lk_kp hv x y).1 hh]
        have := hb y
        by_cases e : y = x
        · subst e; rw [if_pos rfl, if_pos rfl]; omega
        · rw [if_neg e, if_neg (fun h => e h.symm)]; omega
    · have hf : hasK L x = false := by simpa using hh
      have h0 := lk_none hf
      by_cases hl : L.length < k
      · refine ⟨d, hd, ?_, fun y => ?_⟩
        · rw [kp_new hf hl, sumL_perm (insL_perm hf), sumL_cons]; push_cast; omega
        · rw [(lk_kp hv x y).2.1 hf hl]
          have := hb y
          by_cases e : y = x
          · subst e; rw [if_pos rfl, if_pos rfl]; omega
          · rw [if_neg e, if_neg (fun h => e h.symm)]; omega
      · refine ⟨d + 1, by omega, ?_, fun y => ?_⟩
        · have hlen : L.length = k := by have := hv.len; omega
          rw [kp_dec hf hl, sumL_map_dec, Int.add_mul, hlen]
          push_cast
          omega
        · have hy := hb y
          obtain ⟨g1, g2⟩ := (lk_kp hv x y).2.2 hf hl
          by_cases hyk : hasK L y = true
          · rw [g1 hyk]
            have e : ¬ x = y := fun e => by rw [e, hyk] at hf; cases hf
            rw [if_neg e]
            omega
          · have hyf : hasK L y = false := by simpa using hyk
            rw [g2 hyf]
            have := lk_none hyf
            split <;> omega

theorem heavy_bound (ks : Nat → Int) (k n : Nat) (x : Int) : lk (stH ks k n) x ≤ cn ks x n ∧ (cn ks x n - lk (stH ks k n) x) * ((k : Int) + 1) ≤ n := by
  obtain ⟨d, hd, hs, hb⟩ := heavy_law ks k n
  have h0 := sumL_nonneg (fun p hp => ((st_inv ks k n).pos p hp).1)
  refine ⟨(hb x).1, ?_⟩
  have : (cn ks x n - lk (stH ks k n) x) * ((k : Int) + 1) ≤ d * ((k : Int) + 1) := Int.mul_le_mul_of_nonneg_right (by have := (hb x).2; omega) (by omega)
  omega

end Go.Proofs.YtgpfkaiinbncnaaDoor
