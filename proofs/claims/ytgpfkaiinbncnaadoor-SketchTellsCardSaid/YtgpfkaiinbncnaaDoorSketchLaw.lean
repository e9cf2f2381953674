/- sketch: the plain law: what is told is no less than how often a key came, and no more than all. -/
import Derived.Test.YtgpfkaiinbncnaaDoorHash0
namespace Go.Proofs.YtgpfkaiinbncnaaDoor

/-- the sum of those of ns 0 .. ns (k-1) of which p tells -/
def csum (ns : Nat → Int) (p : Nat → Bool) : Nat → Int
  | 0 => 0
  | k + 1 => if p k = true then csum ns p k + ns k else csum ns p k

theorem csum_bd (ns : Nat → Int) (p : Nat → Bool) (k : Nat) (h : ∀ j, j < k → 0 ≤ ns j ∧ ns j ≤ 1000) : 0 ≤ csum ns p k ∧ csum ns p k ≤ 1000 * k := by
  induction k with
  | zero => simp [csum]
  | succ k ih =>
    have h1 := ih fun j hj => h j (by omega)
    have h2 := h k (by omega)
    unfold csum
    split <;> omega

theorem csum_le (ns : Nat → Int) (p q : Nat → Bool) (k : Nat) (h : ∀ j, j < k → 0 ≤ ns j) (hpq : ∀ j, j < k → p j = true → q j = true) : csum ns p k ≤ csum ns q k := by
  induction k with
  | zero => exact Int.le_refl _
  | succ k ih =>
    have h1 := ih (fun j hj => h j (by omega)) (fun j hj => hpq j (by omega))
    have h2 := h k (by omega)
    have h3 := hpq k (by omega)
    unfold csum
    by_cases hp : p k = true
    · rw [if_pos hp, if_pos (h3 hp)]; omega
    · rw [if_neg hp]; split <;> omega

theorem csum_congr (ns : Nat → Int) (p q : Nat → Bool) (k : Nat) (h : ∀ j, j < k → p j = q j) : csum ns p k = csum ns q k := by
  induction k with
  | zero => rfl
  | succ k ih =>
    unfold csum
    rw [ih fun j hj => h j (by omega), h k (by omega)]

/-- the bytes that are hashed for a row: its number, and the key -/
def kfn (i : Nat) (kf : Nat → Int) (j : Nat) : Int := if j = 0 then (i : Int) else kf (j - 1)

/-- the place of a key in row i -/
def spt (wd i n : Nat) (kf : Nat → Int) : Nat := (hsh (kfn i kf) (n + 1)).toNat % wd

theorem spt_lt (wd i n : Nat) (kf : Nat → Int) (h : 0 < wd) : spt wd i n kf < wd := Nat.mod_lt _ h

theorem spt_congr (wd i n : Nat) (kf kg : Nat → Int) (h : ∀ j, j < n → kf j = kg j) : spt wd i n kf = spt wd i n kg := by
  unfold spt
  rw [hsh_congr (kfn i kf) (kfn i kg) (n + 1) (fun j hj => by
    unfold kfn
    by_cases h0 : j = 0
    · rw [if_pos h0, if_pos h0]
    · rw [if_neg h0, if_neg h0, h _ (by omega)])]

/-- the sketch of the first k keys: L their lengths, K their bytes -/
def skt (wd : Nat) (L : Nat → Nat) (K : Nat → Nat → Int) (ns : Nat → Int) (k i p : Nat) : Int := csum ns (fun t => decide (spt wd i (L t) (K t) = p)) k

/-- the least of most and the first k of g -/
def lea (g : Nat → Int) : Nat → Int
  | 0 => 1125899906842624
  | k + 1 => min (lea g k) (g k)

theorem lea_le (g : Nat → Int) (k : Nat) : lea g k ≤ 1125899906842624 ∧ ∀ j, j < k → lea g k ≤ g j := by
  induction k with
  | zero => exact ⟨Int.le_refl _, fun j hj => absurd hj (Nat.not_lt_zero _)⟩
  | succ k ih =>
    unfold lea
    refine ⟨by omega, fun j hj => ?_⟩
    by_cases h : j = k
    · subst h; omega
    · have := ih.2 j (by omega); omega

theorem lea_ge (g : Nat → Int) (k : Nat) (x : Int) (hx : x ≤ 1125899906842624) (h : ∀ j, j < k → x ≤ g j) : x ≤ lea g k := by
  induction k with
  | zero => exact hx
  | succ k ih =>
    have h1 := ih fun j hj => h j (by omega)
    have h2 := h k (by omega)
    unfold lea
    omega

/-- what Count tells of a key -/
theorem skt_told (wd d : Nat) (L : Nat → Nat) (K : Nat → Nat → Int) (ns : Nat → Int) (n t : Nat) (hd : 0 < d) (hn : n ≤ 40) (hns : ∀ j, j < n → 0 ≤ ns j ∧ ns j ≤ 1000) (eqk : Nat → Bool)
    (he : ∀ j, j < n → eqk j = true → L j = L t ∧ ∀ x, x < L t → K j x = K t x) :
    csum ns eqk n ≤ lea (fun i => skt wd L K ns n i (spt wd i (L t) (K t))) d ∧ lea (fun i => skt wd L K ns n i (spt wd i (L t) (K t))) d ≤ csum ns (fun _ => true) n := by
  have hall := csum_bd ns (fun _ => true) n hns
  have hnn : ∀ j, j < n → 0 ≤ ns j := fun j hj => (hns j hj).1
  refine ⟨lea_ge _ _ _ ?_ fun i hi => ?_, ?_⟩
  · have := csum_le ns eqk (fun _ => true) n hnn (fun _ _ _ => rfl)
    omega
  · refine csum_le ns _ _ n hnn (fun j hj h => ?_)
    obtain ⟨h1, h2⟩ := he j hj h
    simp only [decide_eq_true_eq]
    rw [h1]
    exact spt_congr wd i (L t) _ _ h2
  · have h1 := (lea_le (fun i => skt wd L K ns n i (spt wd i (L t) (K t))) d).2 0 hd
    have h2 := csum_le ns (fun t' => decide (spt wd 0 (L t') (K t') = spt wd 0 (L t) (K t))) (fun _ => true) n hnn (fun _ _ _ => rfl)
    exact Int.le_trans h1 h2

/-- one key more -/
theorem skt_succ (wd : Nat) (L : Nat → Nat) (K : Nat → Nat → Int) (ns : Nat → Int) (k i p : Nat) :
    (if p = spt wd i (L k) (K k) then skt wd L K ns k i p + ns k else skt wd L K ns k i p) = skt wd L K ns (k + 1) i p := by
  show _ = (if decide (spt wd i (L k) (K k) = p) = true then _ else _)
  by_cases h : p = spt wd i (L k) (K k)
  · rw [if_pos h, if_pos (by simp [h])]; rfl
  · rw [if_neg h, if_neg (by simp; exact fun e => h e.symm)]; rfl

end Go.Proofs.YtgpfkaiinbncnaaDoor
