/- Nodes: what is wrong with them (plain law); ring.Check. -/
import Derived.Test.YtbaiaolgjlhioaaDoorInfo
import Derived.Test.YtbaiaolgjlhioaaDoorPairs
import Derived.IntWalk
import Derived.Maps.Own
import Derived.Maps.OwnOps
import Derived.Maps.OwnSet
namespace Go.Proofs.YtbaiaolgjlhioaaDoor
open Go.RowKit Go.Maps

/-- is x the first one of an element among the first k? -/
def metN (p : Nat → Int × Int) (x : Int) : Nat → Bool
  | 0 => false
  | k + 1 => metN p x k || ((p k).1 == x)

theorem metN_iff (p : Nat → Int × Int) (x : Int) (k : Nat) : metN p x k = true ↔ ∃ j, j < k ∧ (p j).1 = x := by
  induction k with
  | zero => simp [metN]
  | succ k ih =>
    simp only [metN, Bool.or_eq_true, ih, beq_iff_eq]
    constructor
    · rintro (⟨j, h1, h2⟩ | h)
      · exact ⟨j, by omega, h2⟩
      · exact ⟨k, by omega, h⟩
    · rintro ⟨j, h1, h2⟩
      by_cases h : j = k
      · subst h; exact .inr h2
      · exact .inl ⟨j, by omega, h2⟩

theorem metN_false {p : Nat → Int × Int} {x : Int} {k : Nat} (h : metN p x k = false) (j : Nat) (hj : j < k) : (p j).1 ≠ x := fun e => by
  have := (metN_iff p x k).2 ⟨j, hj, e⟩
  rw [h] at this
  cases this

def NRange (q : Int × Int) : Prop := 0 ≤ q.1 ∧ q.1 ≤ 2147483647 ∧ 1 ≤ q.2 ∧ q.2 ≤ 16

instance (q : Int × Int) : Decidable (NRange q) := by unfold NRange; infer_instance

/-- what the first k nodes show -/
def nfk (p : Nat → Int × Int) : Nat → Int
  | 0 => 0
  | k + 1 => if nfk p k ≠ 0 then nfk p k else if ¬ NRange (p k) then 6 else if metN p (p k).1 k = true then 10 else 0

/-- what is wrong with nodes -/
def nfault (p : Nat → Int × Int) (n : Nat) : Int := if 40 < n then 7 else if nfk p n ≠ 0 then nfk p n else if n = 0 then 9 else 0

theorem nfk_of (p : Nat → Int × Int) (k n : Nat) (h : nfk p k ≠ 0) (hk : k ≤ n) : nfk p n = nfk p k := by
  induction n with
  | zero => rw [show k = 0 by omega]
  | succ n ih =>
    by_cases e : k = n + 1
    · rw [e]
    · have := ih (by omega)
      simp only [nfk]
      rw [this, if_pos h]

theorem nfk_zero (p : Nat → Int × Int) (n : Nat) (h : nfk p n = 0) : ∀ k, k < n → NRange (p k) ∧ ∀ j, j < k → (p j).1 ≠ (p k).1 := by
  induction n with
  | zero => intro k hk; omega
  | succ n ih =>
    simp only [nfk] at h
    by_cases h0 : nfk p n = 0
    · rw [if_neg (by simpa using h0)] at h
      by_cases h1 : NRange (p n)
      · rw [if_neg (by simpa using h1)] at h
        by_cases h2 : metN p (p n).1 n = true
        · rw [if_pos h2] at h; omega
        · intro k hk
          by_cases e : k = n
          · subst e
            exact ⟨h1, fun j hj => metN_false (by simpa using h2) j hj⟩
          · exact ih h0 k (by omega)
      · rw [if_pos (by simpa using h1)] at h; omega
    · rw [if_pos (by simpa using h0)] at h; omega

theorem nfk_good (p : Nat → Int × Int) (n : Nat) (h : ∀ k, k < n → NRange (p k) ∧ ∀ j, j < k → (p j).1 ≠ (p k).1) : nfk p n = 0 := by
  induction n with
  | zero => rfl
  | succ n ih =>
    simp only [nfk]
    rw [if_neg (by simpa using ih fun k hk => h k (by omega)), if_neg (by simpa using (h n (by omega)).1), if_neg]
    intro hm
    obtain ⟨j, hj, e⟩ := (metN_iff _ _ _).1 hm
    exact (h n (by omega)).2 j hj e

/-- nothing is wrong -/
structure NGood (p : Nat → Int × Int) (n : Nat) : Prop where
  n0 : 0 < n
  n40 : n ≤ 40
  rng : ∀ k, k < n → NRange (p k)
  ne : ∀ j k, j < n → k < n → (p j).1 = (p k).1 → j = k

theorem nfault_iff (p : Nat → Int × Int) (n : Nat) : nfault p n = 0 ↔ NGood p n := by
  unfold nfault
  constructor
  · intro h
    by_cases h1 : 40 < n
    · rw [if_pos h1] at h; omega
    · rw [if_neg h1] at h
      by_cases h2 : nfk p n = 0
      · rw [if_neg (by simpa using h2)] at h
        by_cases h3 : n = 0
        · rw [if_pos h3] at h; omega
        · have hz := nfk_zero p n h2
          refine ⟨by omega, by omega, fun k hk => (hz k hk).1, fun j k hj hk e => ?_⟩
          rcases Nat.lt_trichotomy j k with h | h | h
          · exact absurd e ((hz k hk).2 j h)
          · exact h
          · exact absurd e.symm ((hz j hj).2 k h)
      · rw [if_pos (by simpa using h2)] at h; exact absurd h h2
  · intro h
    have := h.n0
    have h40 := h.n40
    rw [if_neg (by omega), if_neg, if_neg (by omega)]
    simp only [ne_eq, Classical.not_not]
    exact nfk_good p n fun k hk => ⟨h.rng k hk, fun j hj e => by have := h.ne j k (by omega) hk e; omega⟩

/-- an error of a number -/
def erV (z : Int) : Value := if z = 0 then .nilIface else .iface 26 (.int .i64 z)

theorem maplaw : Keyed Tryd.prog 3 := int_keyed Tryd.underlying3
theorem zeroInt (w : World) : (zeroValue 3).run Tryd.prog w = .ok (.int .i64 0) w := by kernel_rfl

/-- an element that is copied into a block of its own -/
def ld2 (w : World) (T : TypeId) (x y : Int) : World := ((w.alloc (.cells #[.int .i64 0, .int .i64 0] T)).setCell ⟨w.heap.size, 0, none⟩ (.int .i64 x)).setCell ⟨w.heap.size, 1, none⟩ (.int .i64 y)

theorem ld2_blk (w : World) (T : TypeId) (x y : Int) : (ld2 w T x y).heap[w.heap.size]? = some (.cells #[.int .i64 x, .int .i64 y] T (0, 0)) := blk_set2 (heap_alloc_new w _) _ _
theorem ld2_fr (w : World) (T : TypeId) (x y : Int) : Fr [] w (ld2 w T x y) := (((Fr.refl [] w).alloc _).setCell (.inr (Nat.le_refl _)) _).setCell (.inr (Nat.le_refl _)) _

end Go.Proofs.YtbaiaolgjlhioaaDoor
