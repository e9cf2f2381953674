/- Where a rule's nodes begin; what stands on the stack of read, told by them. -/
import Derived.Test.YtgpfkaiinbncnaaDoorReadDefs
namespace Go.Proofs.YtgpfkaiinbncnaaDoor
open Go.RowKit

/-- the place where m rules, one behind the other, begin, the last one's last node at p -/
def ahN (M : Nat → Mt) : Nat → Nat → Nat
  | 0, _ => 0
  | p + 1, m => if m + tkN (M (p + 1)).op = 1 then p + 1 else ahN M p (m + tkN (M (p + 1)).op - 1)

theorem ahN_le (M : Nat → Mt) (p m : Nat) : ahN M p m ≤ p := by
  induction p generalizing m with
  | zero => exact Nat.le_refl _
  | succ p ih =>
    simp only [ahN]
    split
    · exact Nat.le_refl _
    · exact Nat.le_trans (ih _) (by omega)

theorem ahN_add (M : Nat → Mt) (p a b : Nat) (ha : 1 ≤ a) (hb : 1 ≤ b) : ahN M p (a + b) = ahN M (ahN M p a - 1) b := by
  induction p generalizing a with
  | zero => rfl
  | succ p ih =>
    simp only [ahN]
    by_cases h : a + tkN (M (p + 1)).op = 1
    · rw [if_pos h, if_neg (by omega), Nat.add_sub_cancel]
      congr 1
      omega
    · rw [if_neg h, if_neg (by omega), ← ih _ (by omega)]
      congr 1
      omega

/-- what lies below the top -/
theorem stk_below (M : Nat → Mt) (q : Qt) (k : Nat) (hk : 1 ≤ k) (hf : fed M k = true) :
    dps M (ahN M (k - 1) 1) + 1 = dps M k ∧ ahN M (k - 1) 1 ≤ k - 1 ∧ fed M (ahN M (k - 1) 1) = true ∧ ∀ j, j < dps M (ahN M (k - 1) 1) → stB M q k j = stB M q (ahN M (k - 1) 1) j := by
  induction k using Nat.strongRecOn with
  | ind k ih =>
    obtain ⟨p, rfl⟩ : ∃ p, k = p + 1 := ⟨k - 1, by omega⟩
    rw [Nat.add_sub_cancel]
    have hfp : fed M p = true := by simp only [fed, Bool.and_eq_true] at hf; exact hf.1
    have htp : tkN (M p).op ≤ dps M p := by simp only [fed, Bool.and_eq_true, decide_eq_true_eq] at hf; exact hf.2
    have h2 := tkN_le (M p).op
    have hdp : dps M (p + 1) = dps M p - tkN (M p).op + 1 := rfl
    have hst : ∀ j, j < dps M p - tkN (M p).op → stB M q (p + 1) j = stB M q p j := fun j hj => by simp only [stB]; rw [if_pos hj]
    by_cases t0 : tkN (M p).op = 0
    · have e : ahN M p 1 = p := by
        cases p with
        | zero => rfl
        | succ p => simp only [ahN]; rw [if_pos (by omega)]
      rw [e]
      refine ⟨by omega, Nat.le_refl _, hfp, fun j hj => hst j (by omega)⟩
    · have hp1 : 1 ≤ p := by
        cases p with
        | zero => simp only [dps] at htp; omega
        | succ p => omega
      obtain ⟨i1, i2, i3, i4⟩ := ih p (by omega) hp1 hfp
      obtain ⟨p', rfl⟩ : ∃ p', p = p' + 1 := ⟨p - 1, by omega⟩
      rw [Nat.add_sub_cancel] at i1 i2 i3 i4
      by_cases t1 : tkN (M (p' + 1)).op = 1
      · have e : ahN M (p' + 1) 1 = ahN M p' 1 := by simp only [ahN]; rw [if_neg (by omega), t1]
        rw [e]
        refine ⟨by omega, by omega, i3, fun j hj => ?_⟩
        rw [hst j (by omega)]
        exact i4 j hj
      · have t2 : tkN (M (p' + 1)).op = 2 := by omega
        have e : ahN M (p' + 1) 1 = ahN M (ahN M p' 1 - 1) 1 := by
          rw [← ahN_add M p' 1 1 (Nat.le_refl _) (Nat.le_refl _)]
          simp only [ahN]
          rw [if_neg (by omega), t2]
        rw [e]
        generalize ahN M p' 1 = b at *
        have hb1 : 1 ≤ b := by
          cases b with
          | zero => have : dps M 0 = 0 := rfl; omega
          | succ b => omega
        obtain ⟨j1, j2, j3, j4⟩ := ih b (by omega) hb1 i3
        refine ⟨by omega, by omega, j3, fun j hj => ?_⟩
        rw [hst j (by omega), i4 j (by omega), j4 j hj]

/-- the top of the stack behind part k -/
def topB (M : Nat → Mt) (q : Qt) (k : Nat) : Bool := stB M q (k + 1) (dps M (k + 1) - 1)

theorem top_eq (M : Nat → Mt) (q : Qt) (k : Nat) : topB M q k = nodeH (M k) q (fun i => stB M q k (dps M k - tkN (M k).op + i)) := by
  unfold topB
  have e : dps M (k + 1) - 1 = dps M k - tkN (M k).op := by simp only [dps]; omega
  rw [e]
  simp only [stB]
  rw [if_neg (by omega)]

theorem nodeH_leaf {m : Mt} {q : Qt} {bs : Nat → Bool} (h : tkN m.op = 0) : nodeH m q bs = leafH m q := by
  unfold tkN tk at h
  unfold nodeH
  by_cases h8 : m.op = 8
  · rw [if_pos h8] at h; exact absurd h (by decide)
  · rw [if_neg h8] at h ⊢
    by_cases h9 : m.op = 9
    · rw [if_pos (.inl h9)] at h; exact absurd h (by decide)
    · rw [if_neg h9]
      by_cases h10 : m.op = 10
      · rw [if_pos (.inr h10)] at h; exact absurd h (by decide)
      · rw [if_neg h10]

theorem tk8 {op : Int} (h : op = 8) : tkN op = 1 := by subst h; rfl
theorem tk9 {op : Int} (h : op = 9) : tkN op = 2 := by subst h; rfl
theorem tk10 {op : Int} (h : op = 10) : tkN op = 2 := by subst h; rfl

/-- a part is fed: what it takes stands ahead -/
theorem top_take (M : Nat → Mt) (q : Qt) (k : Nat) (hf : fed M (k + 1) = true) :
    (tkN (M k).op = 0 → topB M q k = leafH (M k) q) ∧
    (1 ≤ tkN (M k).op → 1 ≤ k ∧ fed M k = true) ∧
    ((M k).op = 8 → topB M q k = !topB M q (k - 1)) ∧
    (tkN (M k).op = 2 → 1 ≤ ahN M (k - 1) 1 ∧ ahN M (k - 1) 1 ≤ k - 1 ∧ fed M (ahN M (k - 1) 1) = true) ∧
    ((M k).op = 9 → topB M q k = (topB M q (ahN M (k - 1) 1 - 1) && topB M q (k - 1))) ∧
    ((M k).op = 10 → topB M q k = (topB M q (ahN M (k - 1) 1 - 1) || topB M q (k - 1))) := by
  have hfp : fed M k = true := by simp only [fed, Bool.and_eq_true] at hf; exact hf.1
  have htp : tkN (M k).op ≤ dps M k := by simp only [fed, Bool.and_eq_true, decide_eq_true_eq] at hf; exact hf.2
  have hk1 : 1 ≤ tkN (M k).op → 1 ≤ k := fun h => by
    cases k with
    | zero => simp only [dps] at htp; omega
    | succ k => omega
  have h1 : 1 ≤ k → topB M q (k - 1) = stB M q k (dps M k - 1) := fun h => by unfold topB; rw [Nat.sub_add_cancel h]
  have h2 : tkN (M k).op = 2 → (1 ≤ ahN M (k - 1) 1 ∧ ahN M (k - 1) 1 ≤ k - 1 ∧ fed M (ahN M (k - 1) 1) = true) ∧ topB M q (ahN M (k - 1) 1 - 1) = stB M q k (dps M k - 2) := fun h => by
    obtain ⟨i1, i2, i3, i4⟩ := stk_below M q k (hk1 (by omega)) hfp
    generalize ahN M (k - 1) 1 = b at *
    have hb1 : 1 ≤ b := by
      cases b with
      | zero => have : dps M 0 = 0 := rfl; omega
      | succ b => omega
    refine ⟨⟨hb1, i2, i3⟩, ?_⟩
    unfold topB
    rw [Nat.sub_add_cancel hb1, show dps M k - 2 = dps M b - 1 by omega]
    exact (i4 _ (by omega)).symm
  refine ⟨fun h => by rw [top_eq, nodeH_leaf h], fun h => ⟨hk1 h, hfp⟩, fun h => ?_, fun h => (h2 h).1, fun h => ?_, fun h => ?_⟩
  · have ht := tk8 h
    rw [top_eq, h1 (hk1 (by omega)), ht]
    unfold nodeH
    rw [if_pos h]
    simp
  · have ht := tk9 h
    rw [top_eq, h1 (hk1 (by omega)), (h2 ht).2, ht]
    unfold nodeH
    rw [if_neg (by omega), if_pos h]
    dsimp only
    rw [Nat.add_zero, show dps M k - 2 + 1 = dps M k - 1 by omega]
  · have ht := tk10 h
    rw [top_eq, h1 (hk1 (by omega)), (h2 ht).2, ht]
    unfold nodeH
    rw [if_neg (by omega), if_neg (by omega), if_pos h]
    dsimp only
    rw [Nat.add_zero, show dps M k - 2 + 1 = dps M k - 1 by omega]

end Go.Proofs.YtgpfkaiinbncnaaDoor
