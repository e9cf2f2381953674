/- drr: the machine of the flows, in plain Lean. -/
import Derived.Test.YthopnlnknicgbaaDoorRows
namespace Go.Proofs.YthopnlnknicgbaaDoor

/-- which flow is at hand, has it had its share, each one's credit -/
structure Dst where
  pos : Nat
  vis : Bool
  cr : Nat → Int

/-- the credit of the flow at hand, with its share -/
def crd (sh : Nat → Int) (s : Dst) : Int := if s.vis then s.cr s.pos else s.cr s.pos + sh s.pos

def dstops (sh : Nat → Int) (ln : Nat → Nat) (hd : Nat → Int) (s : Dst) : Prop := 0 < ln s.pos ∧ hd s.pos ≤ crd sh s

def dstep (n : Nat) (sh : Nat → Int) (ln : Nat → Nat) (s : Dst) : Dst :=
  ⟨(s.pos + 1) % n, false, fun j => if j = s.pos then (if ln j = 0 then 0 else crd sh s) else s.cr j⟩

/-- the flow at hand gives what is first in its line -/
def dgive (sh : Nat → Int) (hd : Nat → Int) (s : Dst) : Dst :=
  ⟨s.pos, true, fun j => if j = s.pos then crd sh s - hd j else s.cr j⟩

/-- what holds of credits; B: nothing that waits is greater -/
def DInv (n : Nat) (B : Int) (sh : Nat → Int) (ln : Nat → Nat) (hd : Nat → Int) (s : Dst) : Prop :=
  s.pos < n ∧ ∀ i, i < n → 0 ≤ s.cr i ∧ ((i = s.pos ∧ s.vis = true) → s.cr i < sh i + B) ∧ (¬ (i = s.pos ∧ s.vis = true) → s.cr i = 0 ∨ (0 < ln i ∧ s.cr i < hd i))

section
variable {n : Nat} {B : Int} {sh : Nat → Int} {ln : Nat → Nat} {hd : Nat → Int} {s : Dst}

theorem DInv.crd_bd (h : DInv n B sh ln hd s) (hB : 1 ≤ B) (hs : ∀ i, i < n → 1 ≤ sh i) (hh : ∀ i, i < n → 0 < ln i → 1 ≤ hd i ∧ hd i ≤ B) : 0 ≤ crd sh s ∧ crd sh s < sh s.pos + B := by
  obtain ⟨hp, hi⟩ := h
  obtain ⟨h0, h1, h2⟩ := hi s.pos hp
  have h3 := hs _ hp
  unfold crd
  by_cases hv : s.vis = true
  · rw [if_pos hv]
    exact ⟨h0, h1 ⟨rfl, hv⟩⟩
  · rw [if_neg hv]
    rcases h2 (fun h => hv h.2) with h4 | ⟨h4, h5⟩
    · omega
    · have := hh _ hp h4; omega

theorem DInv.step (h : DInv n B sh ln hd s) (hs : ∀ i, i < n → 1 ≤ sh i) (hn : ¬ dstops sh ln hd s) : DInv n B sh ln hd (dstep n sh ln s) := by
  obtain ⟨hp, hi⟩ := h
  refine ⟨Nat.mod_lt _ (by omega), fun i hin => ?_⟩
  have hb : ∀ P : Prop, (i = (dstep n sh ln s).pos ∧ (dstep n sh ln s).vis = true) → P := fun P hc => by cases hc.2
  obtain ⟨h0, h1, h2⟩ := hi i hin
  refine ⟨?_, hb _, fun _ => ?_⟩
  · show 0 ≤ (if i = s.pos then (if ln i = 0 then 0 else crd sh s) else s.cr i)
    by_cases he : i = s.pos
    · rw [if_pos he]
      by_cases hl : ln i = 0
      · rw [if_pos hl]; exact Int.le_refl _
      · rw [if_neg hl]
        subst he
        have := hs _ hp
        unfold crd
        split <;> omega
    · rw [if_neg he]; exact h0
  · show (if i = s.pos then (if ln i = 0 then 0 else crd sh s) else s.cr i) = 0 ∨ _
    by_cases he : i = s.pos
    · rw [show (dstep n sh ln s).cr i = (if ln i = 0 then 0 else crd sh s) from if_pos he, if_pos he]
      by_cases hl : ln i = 0
      · left; rw [if_pos hl]
      · right
        rw [if_neg hl]
        subst he
        refine ⟨by omega, ?_⟩
        unfold dstops at hn
        omega
    · rw [show (dstep n sh ln s).cr i = s.cr i from if_neg he, if_neg he]
      exact h2 (fun hc => he hc.1)

theorem DInv.give (h : DInv n B sh ln hd s) (hB : 1 ≤ B) (hs : ∀ i, i < n → 1 ≤ sh i) (hh : ∀ i, i < n → 0 < ln i → 1 ≤ hd i ∧ hd i ≤ B) (hst : dstops sh ln hd s)
    (ln' : Nat → Nat) (hd' : Nat → Int) (hl : ∀ i, i ≠ s.pos → ln' i = ln i ∧ hd' i = hd i) : DInv n B sh ln' hd' (dgive sh hd s) := by
  have hc := h.crd_bd hB hs hh
  obtain ⟨hp, hi⟩ := h
  have hhp := hh _ hp hst.1
  refine ⟨hp, fun i hin => ?_⟩
  obtain ⟨h0, h1, h2⟩ := hi i hin
  by_cases he : i = s.pos
  · have e : (dgive sh hd s).cr i = crd sh s - hd i := if_pos he
    rw [e]
    subst he
    refine ⟨by have := hst.2; omega, fun _ => by omega, fun hx => absurd ⟨rfl, rfl⟩ hx⟩
  · have e : (dgive sh hd s).cr i = s.cr i := if_neg he
    rw [e]
    refine ⟨h0, fun hx => absurd hx.1 he, fun _ => ?_⟩
    rw [(hl i he).1, (hl i he).2]
    exact h2 (fun hx => he hx.1)

/-- one more in a line -/
theorem DInv.put (h : DInv n B sh ln hd s) (ln' : Nat → Nat) (hd' : Nat → Int) (hl : ∀ i, i < n → (0 < ln i → 0 < ln' i ∧ hd' i = hd i)) : DInv n B sh ln' hd' s :=
  ⟨h.1, fun i hi => by
    obtain ⟨h0, h1, h2⟩ := h.2 i hi
    refine ⟨h0, h1, fun hx => ?_⟩
    rcases h2 hx with h3 | ⟨h3, h4⟩
    · exact .inl h3
    · have := hl i hi h3
      exact .inr ⟨this.1, by rw [this.2]; exact h4⟩⟩

/-- how many steps are left at most, where the line of e is not empty -/
def dleft (n : Nat) (hd : Nat → Int) (e : Nat) (s : Dst) : Nat := n * (hd e - s.cr e).toNat + (e + n - s.pos) % n + if s.vis then n else 0

theorem dleft_step (e : Nat) (he : e < n) (hp : s.pos < n) (hln : 0 < ln e) (hs : ∀ i, i < n → 1 ≤ sh i) (hn : ¬ dstops sh ln hd s) : dleft n hd e (dstep n sh ln s) < dleft n hd e s := by
  unfold dleft
  have hv : (dstep n sh ln s).vis = false := rfl
  have hpos : (dstep n sh ln s).pos = (s.pos + 1) % n := rfl
  rw [hv, hpos, if_neg (by simp)]
  by_cases hx : e = s.pos
  · have e1 : (dstep n sh ln s).cr e = crd sh s := by
      show (if e = s.pos then (if ln e = 0 then 0 else crd sh s) else s.cr e) = _
      rw [if_pos hx, if_neg (by omega)]
    rw [e1]
    subst hx
    have hlt : crd sh s < hd s.pos := by unfold dstops at hn; omega
    have e2 : (s.pos + n - s.pos) % n = 0 := by rw [Nat.add_sub_cancel_left, Nat.mod_self]
    have e3 : (s.pos + n - (s.pos + 1) % n) % n < n := Nat.mod_lt _ (by omega)
    rw [e2]
    by_cases hvis : s.vis = true
    · have e4 : crd sh s = s.cr s.pos := by unfold crd; rw [if_pos hvis]
      rw [if_pos hvis, e4]
      omega
    · have e4 : crd sh s = s.cr s.pos + sh s.pos := by unfold crd; rw [if_neg hvis]
      have := hs _ hp
      rw [if_neg hvis]
      have e5 : (hd s.pos - crd sh s).toNat + 1 ≤ (hd s.pos - s.cr s.pos).toNat := by omega
      have e6 := Nat.mul_le_mul_left n e5
      rw [Nat.mul_add] at e6
      omega
  · have e1 : (dstep n sh ln s).cr e = s.cr e := by
      show (if e = s.pos then (if ln e = 0 then 0 else crd sh s) else s.cr e) = _
      rw [if_neg hx]
    rw [e1]
    have e2 : (e + n - (s.pos + 1) % n) % n + 1 = (e + n - s.pos) % n := by
      by_cases h1 : s.pos + 1 = n
      · rw [h1, Nat.mod_self, Nat.sub_zero, Nat.add_mod_right, Nat.mod_eq_of_lt he, Nat.mod_eq_of_lt (by omega)]
        omega
      · rw [Nat.mod_eq_of_lt (by omega : s.pos + 1 < n)]
        by_cases h2 : e < s.pos
        · rw [Nat.mod_eq_of_lt (by omega), Nat.mod_eq_of_lt (by omega)]
          omega
        · rw [show e + n - (s.pos + 1) = (e - (s.pos + 1)) + n by omega, show e + n - s.pos = (e - s.pos) + n by omega, Nat.add_mod_right, Nat.add_mod_right, Nat.mod_eq_of_lt (by omega), Nat.mod_eq_of_lt (by omega)]
          omega
    omega
end

end Go.Proofs.YthopnlnknicgbaaDoor
