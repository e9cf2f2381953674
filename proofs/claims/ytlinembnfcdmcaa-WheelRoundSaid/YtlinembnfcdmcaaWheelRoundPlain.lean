/- The plain law of WheelRound: each as often as it weighs; then nobody is owed anything. -/
import Derived.Test.YtlinembnfcdmcaaWheelScales
namespace Go.Proofs.Ytlinembnfcdmcaa

theorem bst_max (f : Nat → Int) (k : Nat) : ∀ j, j < k → f j ≤ f (bst f k) := by
  induction k with
  | zero => intro j hj; omega
  | succ k ih =>
    intro j hj
    unfold bst
    by_cases hlt : f (bst f k) < f k
    · rw [if_pos hlt]
      by_cases hjk : j = k
      · subst hjk; exact Int.le_refl _
      · have := ih j (by omega); omega
    · rw [if_neg hlt]
      by_cases hjk : j = k
      · subst hjk; omega
      · exact ih j (by omega)

/-- how often each had its turn -/
def cnt (ws : Nat → Int) (n : Nat) (all : Int) : Nat → Nat → Int
  | 0, _ => 0
  | t + 1, j => cnt ws n all t j + if j = trn ws n all t then 1 else 0

theorem ost_succ (ws : Nat → Int) (n : Nat) (all : Int) (t j : Nat) : ost ws n all (t + 1) j = ost ws n all t j + ws j - if j = trn ws n all t then all else 0 := rfl

theorem ost_cnt (ws : Nat → Int) (n : Nat) (all : Int) (t j : Nat) : ost ws n all t j = t * ws j - all * cnt ws n all t j := by
  induction t with
  | zero => simp [ost, cnt]
  | succ t ih =>
    rw [ost_succ, ih, cnt, Int.natCast_add, Int.add_mul, Int.mul_add]
    split <;> simp <;> omega

theorem wsum_add (f g : Nat → Int) (n : Nat) : wsum (fun j => f j + g j) n = wsum f n + wsum g n := by
  induction n with
  | zero => rfl
  | succ n ih => simp only [wsum, ih]; omega

theorem wsum_congr (f g : Nat → Int) (n : Nat) (h : ∀ j, j < n → f j = g j) : wsum f n = wsum g n := by
  induction n with
  | zero => rfl
  | succ n ih => simp only [wsum, ih fun j hj => h j (by omega), h n (by omega)]

theorem wsum_ind (i n : Nat) : wsum (fun j => if j = i then 1 else 0) n = if i < n then 1 else 0 := by
  induction n with
  | zero => simp [wsum]
  | succ n ih =>
    simp only [wsum, ih]
    by_cases h : i < n
    · rw [if_pos h, if_neg (by omega), if_pos (by omega)]; rfl
    · by_cases h2 : n = i
      · subst h2; simp
      · rw [if_neg h, if_neg h2, if_neg (by omega)]; rfl

theorem wsum_cnt (ws : Nat → Int) (n : Nat) (all : Int) (hn : 0 < n) (t : Nat) : wsum (cnt ws n all t) n = t := by
  induction t with
  | zero =>
    have : ∀ m, wsum (cnt ws n all 0) m = 0 := by
      intro m
      induction m with
      | zero => rfl
      | succ m ih => show wsum (cnt ws n all 0) m + cnt ws n all 0 m = 0; rw [ih]; rfl
    rw [this]; rfl
  | succ t ih =>
    have e : wsum (cnt ws n all (t + 1)) n = wsum (fun j => cnt ws n all t j + if j = trn ws n all t then 1 else 0) n := rfl
    rw [e, wsum_add, ih, wsum_ind, if_pos (trn_lt ws n all t hn)]
    simp

theorem wsum_mul (f : Nat → Int) (c : Int) (n : Nat) : wsum (fun j => c * f j) n = c * wsum f n := by
  induction n with
  | zero => simp [wsum]
  | succ n ih => simp only [wsum, ih, Int.mul_add]

theorem wsum_ost (ws : Nat → Int) (n : Nat) (hn : 0 < n) (t : Nat) : wsum (ost ws n (wsum ws n) t) n = 0 := by
  have e : wsum (ost ws n (wsum ws n) t) n = wsum (fun j => t * ws j + -(wsum ws n) * cnt ws n (wsum ws n) t j) n :=
    wsum_congr _ _ n fun j _ => by rw [ost_cnt, Int.neg_mul]; omega
  rw [e, wsum_add, wsum_mul, wsum_mul, wsum_cnt ws n _ hn]
  rw [Int.neg_mul, Int.mul_comm]; omega

theorem wsum_nonpos (f : Nat → Int) (n : Nat) (h : ∀ j, j < n → f j ≤ 0) : wsum f n ≤ 0 := by
  induction n with
  | zero => simp [wsum]
  | succ n ih =>
    have h1 := ih fun j hj => h j (by omega)
    have h2 := h n (by omega)
    simp only [wsum]; omega

theorem ost_gt (ws : Nat → Int) (n : Nat) (hn : 0 < n) (hws : ∀ j, j < n → 1 ≤ ws j ∧ ws j ≤ 1000) (t : Nat) : ∀ j, j < n → -(wsum ws n) < ost ws n (wsum ws n) t j := by
  have h1 := wsum_le ws n hws
  induction t with
  | zero => intro j _; simp only [ost]; omega
  | succ t ih =>
    intro j hj
    rw [ost_succ]
    by_cases hb : j = trn ws n (wsum ws n) t
    · rw [if_pos hb]
      have hpos : 1 ≤ ost ws n (wsum ws n) t j + ws j := by
        rcases Int.lt_or_le 0 (ost ws n (wsum ws n) t j + ws j) with h | h
        · omega
        · exfalso
          have hall : wsum (fun i => ost ws n (wsum ws n) t i + ws i) n ≤ 0 := wsum_nonpos _ n fun i hi => by
            have := bst_max (fun i => ost ws n (wsum ws n) t i + ws i) n i hi
            have e : bst (fun i => ost ws n (wsum ws n) t i + ws i) n = j := hb.symm
            rw [e] at this
            exact Int.le_trans this h
          rw [wsum_add, wsum_ost ws n hn] at hall
          omega
      omega
    · rw [if_neg hb]
      have := ih j hj
      have := hws j hj
      omega

theorem eq_of_sums (a b : Nat → Int) (n : Nat) (h : ∀ j, j < n → a j ≤ b j) (hs : wsum a n = wsum b n) : ∀ j, j < n → a j = b j := by
  induction n with
  | zero => intro j hj; omega
  | succ n ih =>
    have hle : ∀ m, m ≤ n → wsum a m ≤ wsum b m := by
      intro m hm
      induction m with
      | zero => simp [wsum]
      | succ m ihm => have := ihm (by omega); have := h m (by omega); simp only [wsum]; omega
    have h1 := hle n (Nat.le_refl _)
    have h2 := h n (by omega)
    simp only [wsum] at hs
    intro j hj
    by_cases hjn : j = n
    · subst hjn; omega
    · exact ih (fun i hi => h i (by omega)) (by omega) j (by omega)

theorem round_cnt (ws : Nat → Int) (n : Nat) (hn : 0 < n) (hws : ∀ j, j < n → 1 ≤ ws j ∧ ws j ≤ 1000) (T : Nat) (hT : (T : Int) = wsum ws n) :
    ∀ j, j < n → cnt ws n (wsum ws n) T j = ws j := by
  have h1 := wsum_le ws n hws
  refine eq_of_sums _ _ n (fun j hj => ?_) ?_
  · have h2 := ost_gt ws n hn hws T j hj
    rw [ost_cnt, hT] at h2
    have e : wsum ws n * ws j - wsum ws n * cnt ws n (wsum ws n) T j = wsum ws n * (ws j - cnt ws n (wsum ws n) T j) := by rw [Int.mul_sub]
    rw [e] at h2
    rcases Int.lt_or_le (ws j) (cnt ws n (wsum ws n) T j) with h | h
    · exfalso
      have h3 : wsum ws n * (ws j - cnt ws n (wsum ws n) T j) ≤ wsum ws n * (-1) := Int.mul_le_mul_of_nonneg_left (by omega) (by omega)
      omega
    · exact h
  · rw [wsum_cnt ws n _ hn, hT]

theorem round_ost (ws : Nat → Int) (n : Nat) (hn : 0 < n) (hws : ∀ j, j < n → 1 ≤ ws j ∧ ws j ≤ 1000) (T : Nat) (hT : (T : Int) = wsum ws n) :
    ∀ j, j < n → ost ws n (wsum ws n) T j = 0 := by
  intro j hj
  rw [ost_cnt, round_cnt ws n hn hws T hT j hj, hT, Int.mul_comm]
  omega

theorem cnt_bd (ws : Nat → Int) (n : Nat) (all : Int) (t : Nat) (j : Nat) : 0 ≤ cnt ws n all t j ∧ cnt ws n all t j ≤ t := by
  induction t with
  | zero => simp [cnt]
  | succ t ih => simp only [cnt]; split <;> omega

theorem wsum_bd (f : Nat → Int) (M : Int) (k : Nat) (h : ∀ j, j < k → -M ≤ f j ∧ f j ≤ M) : -(k * M) ≤ wsum f k ∧ wsum f k ≤ k * M := by
  induction k with
  | zero => simp [wsum]
  | succ k ih =>
    have h1 := ih fun j hj => h j (by omega)
    have h2 := h k (by omega)
    have e : ((k + 1 : Nat) : Int) * M = k * M + M := by rw [Int.natCast_add, Int.add_mul]; simp
    rw [e]
    simp only [wsum]
    omega

end Go.Proofs.Ytlinembnfcdmcaa
