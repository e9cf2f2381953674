/- The plain law of FramePieces: which messages are whole in so much of the stream. -/
import Derived.Test.YtlinembnfcdmcaaDoorFeed
namespace Go.Proofs.YtlinembnfcdmcaaDoor

/-- where message i's frame begins -/
def ed (L : Nat → Nat) : Nat → Nat
  | 0 => 0
  | i + 1 => ed L i + (2 + L i)

/-- the stream of the first k messages -/
def str (L : Nat → Nat) (F : Nat → Nat → Int) : Nat → Nat → Int
  | 0, _ => 0
  | k + 1, j => if j < ed L k then str L F k j else frm (L k) (F k) (j - ed L k)

theorem ed_mono (L : Nat → Nat) (i d : Nat) : ed L i ≤ ed L (i + d) := by
  induction d with
  | zero => exact Nat.le_refl _
  | succ d ih => rw [show i + (d + 1) = (i + d) + 1 by omega]; simp only [ed]; omega

theorem ed_le (L : Nat → Nat) {i k : Nat} (h : i ≤ k) : ed L i ≤ ed L k := by
  have := ed_mono L i (k - i)
  rwa [show i + (k - i) = k by omega] at this

theorem str_low (L : Nat → Nat) (F : Nat → Nat → Int) (k d j : Nat) (hj : j < ed L k) : str L F (k + d) j = str L F k j := by
  induction d with
  | zero => rfl
  | succ d ih =>
    rw [show k + (d + 1) = (k + d) + 1 by omega]
    simp only [str]
    rw [if_pos (by have := ed_mono L k d; omega), ih]

theorem str_at (L : Nat → Nat) (F : Nat → Nat → Int) (M i j : Nat) (hi : i < M) (hj : j < 2 + L i) : str L F M (ed L i + j) = frm (L i) (F i) j := by
  have h := str_low L F (i + 1) (M - (i + 1)) (ed L i + j) (by simp only [ed]; omega)
  rw [show i + 1 + (M - (i + 1)) = M by omega] at h
  rw [h]
  simp only [str]
  rw [if_neg (by omega), show ed L i + j - ed L i = j by omega]

theorem frm_bd (n : Nat) (f : Nat → Int) (j : Nat) (hf : ∀ j, j < n → 0 ≤ f j ∧ f j ≤ 255) (hj : j < 2 + n) : 0 ≤ frm n f j ∧ frm n f j ≤ 255 := by
  unfold frm
  split
  · omega
  · split
    · omega
    · exact hf _ (by omega)

theorem str_bd (L : Nat → Nat) (F : Nat → Nat → Int) (hF : ∀ i j, j < L i → 0 ≤ F i j ∧ F i j ≤ 255) (k j : Nat) (hj : j < ed L k) : 0 ≤ str L F k j ∧ str L F k j ≤ 255 := by
  induction k with
  | zero => simp [ed] at hj
  | succ k ih =>
    simp only [str]
    by_cases h : j < ed L k
    · rw [if_pos h]; exact ih h
    · rw [if_neg h]
      simp only [ed] at hj
      exact frm_bd _ _ _ (hF k) (by omega)

theorem pos_mono (h : Nat → Int) (i d : Nat) : pos h i ≤ pos h (i + d) := by
  induction d with
  | zero => exact Nat.le_refl _
  | succ d ih => have := pos_le h (i + d); rw [show i + (d + 1) = i + d + 1 by omega]; omega

/-- What 'Feed' finds is what was sent. h: the bytes from ed n on, up to at. -/
theorem pos_ed (L : Nat → Nat) (F : Nat → Nat → Int) (M : Nat) (hL : ∀ i, i < M → L i ≤ 65535) (n at' : Nat) (hn : n ≤ M) (hat : at' ≤ ed L M) (h : Nat → Int)
    (hh : ∀ j, ed L n + j < at' → h j = str L F M (ed L n + j)) (i : Nat) (hi : ed L n + pos h i ≤ at') : n + i ≤ M ∧ ed L n + pos h i = ed L (n + i) := by
  induction i with
  | zero => exact ⟨hn, rfl⟩
  | succ i ih =>
    have h1 := pos_le h i
    obtain ⟨h2, h3⟩ := ih (by omega)
    have hlt : n + i < M := by
      rcases Nat.lt_or_ge (n + i) M with h4 | h4
      · exact h4
      · exfalso
        have h5 : n + i = M := by omega
        rw [h5] at h3
        omega
    have e0 : h (pos h i) = (L (n + i) : Int) / 256 % 256 := by
      rw [hh _ (by omega), h3]
      have := str_at L F M (n + i) 0 hlt (by omega)
      rw [Nat.add_zero] at this
      rw [this]; rfl
    have e1 : h (pos h i + 1) = (L (n + i) : Int) % 256 := by
      rw [hh _ (by omega), ← Nat.add_assoc, h3, str_at L F M (n + i) 1 hlt (by omega)]; rfl
    have hl := hL (n + i) hlt
    have e2 : pos h (i + 1) = pos h i + 2 + L (n + i) := by
      simp only [pos]
      rw [e0, e1]
      have : ((L (n + i) : Int) / 256 % 256 * 256 + (L (n + i) : Int) % 256).toNat = L (n + i) := by omega
      rw [this]
    refine ⟨by omega, ?_⟩
    rw [e2, show n + (i + 1) = (n + i) + 1 by omega]
    simp only [ed]
    omega

theorem pos_last (L : Nat → Nat) (F : Nat → Nat → Int) (M : Nat) (hL : ∀ i, i < M → L i ≤ 65535) (n at' : Nat) (hn : n ≤ M) (hat : at' ≤ ed L M) (h : Nat → Int)
    (hh : ∀ j, ed L n + j < at' → h j = str L F M (ed L n + j)) (i : Nat) (hi : ed L n + pos h i ≤ at') (hi2 : at' < ed L n + pos h (i + 1)) (hlt : n + i < M) : at' < ed L (n + i + 1) := by
  obtain ⟨_, h3⟩ := pos_ed L F M hL n at' hn hat h hh i hi
  rcases Nat.lt_or_ge at' (ed L (n + i + 1)) with h4 | h4
  · exact h4
  · exfalso
    simp only [ed] at h4
    have e0 : h (pos h i) = (L (n + i) : Int) / 256 % 256 := by
      rw [hh _ (by omega), h3]
      have := str_at L F M (n + i) 0 hlt (by omega)
      rw [Nat.add_zero] at this
      rw [this]; rfl
    have e1 : h (pos h i + 1) = (L (n + i) : Int) % 256 := by
      rw [hh _ (by omega), ← Nat.add_assoc, h3, str_at L F M (n + i) 1 hlt (by omega)]; rfl
    have hl := hL (n + i) hlt
    have e2 : pos h (i + 1) = pos h i + 2 + L (n + i) := by
      simp only [pos]
      rw [e0, e1]
      have : ((L (n + i) : Int) / 256 % 256 * 256 + (L (n + i) : Int) % 256).toNat = L (n + i) := by omega
      rw [this]
    omega

end Go.Proofs.YtlinembnfcdmcaaDoor
