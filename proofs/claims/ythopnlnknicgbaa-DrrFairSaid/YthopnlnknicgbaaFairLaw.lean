/- DrrFair: the plain law. -/
import Derived.Test.YthopnlnknicgbaaDrrShared
namespace Go.Proofs.Ythopnlnknicgbaa

/-- had flow i its share of this round? -/
def gr1 (s : Dst) (i : Nat) : Int := if i < s.pos ∨ (i = s.pos ∧ s.vis = true) then 1 else 0

theorem gr1_bd (s : Dst) (i : Nat) : 0 ≤ gr1 s i ∧ gr1 s i ≤ 1 := by
  unfold gr1; split <;> omega

def Fair1 (a b : Nat) (sh : Nat → Int) (x y : Int) (s : Dst) : Prop := ∃ R : Int, x + s.cr a = (R + gr1 s a) * sh a ∧ y + s.cr b = (R + gr1 s b) * sh b

theorem fair1_step {n a b : Nat} {sh : Nat → Int} {x y : Int} {ln : Nat → Nat} {s : Dst} (ha : a < n) (hb : b < n) (hp : s.pos < n) (hla : 0 < ln a) (hlb : 0 < ln b) (h : Fair1 a b sh x y s) : Fair1 a b sh x y (dstep n sh ln s) := by
  obtain ⟨R, h1, h2⟩ := h
  have key : ∀ i z, i < n → 0 < ln i → z + s.cr i = (R + gr1 s i) * sh i → z + (dstep n sh ln s).cr i = (R + if i ≤ s.pos then 1 else 0) * sh i := by
    intro i z hi hl hz
    have e : (dstep n sh ln s).cr i = if i = s.pos then (if ln i = 0 then 0 else crd sh s) else s.cr i := rfl
    rw [e]
    by_cases hx : i = s.pos
    · rw [if_pos hx, if_neg (by omega), if_pos (by omega)]
      unfold crd
      unfold gr1 at hz
      subst hx
      by_cases hv : s.vis = true
      · rw [if_pos hv]
        rw [if_pos (.inr ⟨rfl, hv⟩)] at hz
        exact hz
      · rw [if_neg hv]
        rw [if_neg (by intro h; rcases h with h | h; · omega
                       · exact hv h.2)] at hz
        rw [Int.add_zero] at hz
        rw [Int.add_mul, Int.one_mul]
        omega
    · rw [if_neg hx]
      unfold gr1 at hz
      by_cases hlt : i < s.pos
      · rw [if_pos (.inl hlt)] at hz
        rw [if_pos (by omega)]
        exact hz
      · rw [if_neg (by omega)] at hz
        rw [if_neg (by omega)]
        exact hz
  have g1 : ∀ i, i < n → s.pos + 1 < n → gr1 (dstep n sh ln s) i = if i ≤ s.pos then 1 else 0 := by
    intro i hi hlt
    have e1 : (dstep n sh ln s).pos = s.pos + 1 := Nat.mod_eq_of_lt hlt
    have e2 : (dstep n sh ln s).vis = false := rfl
    unfold gr1
    rw [e1, e2]
    by_cases hx : i ≤ s.pos
    · rw [if_pos (.inl (by omega)), if_pos hx]
    · rw [if_neg (by simp; omega), if_neg hx]
  have g2 : ∀ i, i < n → ¬ s.pos + 1 < n → gr1 (dstep n sh ln s) i = 0 := by
    intro i hi hlt
    have e1 : (dstep n sh ln s).pos = 0 := by show (s.pos + 1) % n = 0; rw [show s.pos + 1 = n by omega, Nat.mod_self]
    have e2 : (dstep n sh ln s).vis = false := rfl
    unfold gr1
    rw [e1, e2, if_neg (by simp)]
  by_cases hlt : s.pos + 1 < n
  · refine ⟨R, ?_, ?_⟩
    · rw [g1 a ha hlt]; exact key a x ha hla h1
    · rw [g1 b hb hlt]; exact key b y hb hlb h2
  · refine ⟨R + 1, ?_, ?_⟩
    · rw [g2 a ha hlt, key a x ha hla h1, if_pos (by omega), Int.add_zero]
    · rw [g2 b hb hlt, key b y hb hlb h2, if_pos (by omega), Int.add_zero]

theorem fair1_give {n a b : Nat} {sh : Nat → Int} {x y : Int} {hd : Nat → Int} {s : Dst} (hab : a ≠ b) (h : Fair1 a b sh x y s) (hp : s.pos = a ∨ s.pos = b) :
    Fair1 a b sh (if s.pos = a then x + hd a else x) (if s.pos = a then y else y + hd b) (dgive sh hd s) := by
  obtain ⟨R, h1, h2⟩ := h
  have key : ∀ i z, z + s.cr i = (R + gr1 s i) * sh i → (if s.pos = i then z + hd i else z) + (dgive sh hd s).cr i = (R + gr1 (dgive sh hd s) i) * sh i := by
    intro i z hz
    have e : (dgive sh hd s).cr i = if i = s.pos then crd sh s - hd i else s.cr i := rfl
    have e1 : (dgive sh hd s).pos = s.pos := rfl
    have e2 : (dgive sh hd s).vis = true := rfl
    rw [e]
    unfold gr1
    rw [e1, e2]
    by_cases hx : i = s.pos
    · subst hx
      rw [if_pos rfl, if_pos rfl, if_pos (.inr ⟨rfl, rfl⟩)]
      unfold gr1 at hz
      unfold crd
      by_cases hv : s.vis = true
      · rw [if_pos hv]
        rw [if_pos (.inr ⟨rfl, hv⟩)] at hz
        omega
      · rw [if_neg hv]
        rw [if_neg (by intro h; rcases h with h | h; · omega
                       · exact hv h.2)] at hz
        rw [Int.add_zero] at hz
        rw [Int.add_mul, Int.one_mul]
        omega
    · rw [if_neg (fun h => hx h.symm), if_neg hx]
      unfold gr1 at hz
      by_cases hlt : i < s.pos
      · rw [if_pos (.inl hlt)] at hz
        rw [if_pos (.inl hlt)]
        exact hz
      · rw [if_neg (by omega)] at hz
        rw [if_neg (by omega)]
        exact hz
  refine ⟨R, key a x h1, ?_⟩
  have := key b y h2
  rcases hp with hp | hp
  · rw [if_pos hp]
    rw [if_neg (by omega)] at this
    exact this
  · rw [if_neg (by omega)]
    rw [if_pos hp] at this
    exact this

/-- what holds behind each turn -/
structure FairInv (n a b : Nat) (big : Int) (sh : Nat → Int) (s : Dst) (ln : Nat → Nat) (li : Nat → Nat → Int) (x y : Int) (waits : Nat) : Prop where
  inv : DInv n big sh ln (fun i => li i 0) s
  rest : ∀ i, i < n → i ≠ a → i ≠ b → ln i = 0
  item : ∀ i, i < n → ∀ k, k < ln i → 1 ≤ li i k ∧ li i k ≤ big
  wt : waits = ln a + ln b
  la : ln a ≤ 60
  lb : ln b ≤ 60
  bx : 0 ≤ x ∧ x + 100 * ln a ≤ 6000
  by_ : 0 ≤ y ∧ y + 100 * ln b ≤ 6000
  fair : Fair1 a b sh x y s

theorem FairInv.next {n a b : Nat} {big : Int} {sh : Nat → Int} {s s1 : Dst} {ln : Nat → Nat} {li : Nat → Nat → Int} {x y : Int} {waits : Nat} (h : FairInv n a b big sh s ln li x y waits) (ha : a < n) (hb : b < n) (hab : a ≠ b)
    (hbig : 1 ≤ big ∧ big ≤ 100) (hs : ∀ i, i < n → 1 ≤ sh i) (hla : 0 < ln a) (hlb : 0 < ln b) (hr : DReach n sh ln (fun i => li i 0) s s1) (hst : dstops sh ln (fun i => li i 0) s1) :
    (s1.pos = a ∨ s1.pos = b) ∧ FairInv n a b big sh (dgive sh (fun i => li i 0) s1) (fun j => if j = s1.pos then ln j - 1 else ln j) (fun j => if j = s1.pos then (fun k => li j (k + 1)) else li j)
      (if s1.pos = a then x + li a 0 else x) (if s1.pos = a then y else y + li b 0) (waits - 1) ∧ 1 ≤ li s1.pos 0 ∧ li s1.pos 0 ≤ 100 := by
  have hi := hr.inv h.inv hs
  have hp := hi.1
  have hf : Fair1 a b sh x y s1 := by
    have hi0 := h.inv
    have hf0 := h.fair
    clear hst hi hp h
    induction hr with
    | refl => exact hf0
    | step hr hn ih => exact fair1_step ha hb (hr.inv hi0 hs).1 hla hlb ih
  have hpos : s1.pos = a ∨ s1.pos = b := by
    by_cases h1 : s1.pos = a
    · exact .inl h1
    · by_cases h2 : s1.pos = b
      · exact .inr h2
      · have := h.rest _ hp h1 h2
        have := hst.1
        omega
  have hh : ∀ i, i < n → 0 < ln i → 1 ≤ li i 0 ∧ li i 0 ≤ big := fun i hi hl => h.item i hi 0 hl
  have hit := h.item _ hp 0 hst.1
  have bx := h.bx
  have bb := h.by_
  have la := h.la
  have lb := h.lb
  have wt := h.wt
  refine ⟨hpos, ⟨hi.give hbig.1 hs hh hst _ _ (fun i hi => ?_), fun i hin h1 h2 => ?_, fun i hin k hk => ?_, ?_, ?_, ?_, ?_, ?_, fair1_give (n := n) (hd := fun i => li i 0) hab hf hpos⟩, by omega, by omega⟩
  · simp [hi]
  · have := h.rest i hin h1 h2
    show (if i = s1.pos then ln i - 1 else ln i) = 0
    split <;> omega
  · by_cases hx : i = s1.pos
    · rw [if_pos hx] at hk ⊢
      exact h.item i hin (k + 1) (by omega)
    · rw [if_neg hx] at hk ⊢
      exact h.item i hin k hk
  · rcases hpos with e | e
    · have h6 := hst.1
      rw [e] at h6
      show waits - 1 = (if a = s1.pos then ln a - 1 else ln a) + (if b = s1.pos then ln b - 1 else ln b)
      rw [if_pos e.symm, if_neg (by omega)]; omega
    · have h6 := hst.1
      rw [e] at h6
      show waits - 1 = (if a = s1.pos then ln a - 1 else ln a) + (if b = s1.pos then ln b - 1 else ln b)
      rw [if_neg (by omega), if_pos e.symm]; omega
  · show (if a = s1.pos then ln a - 1 else ln a) ≤ 60
    split <;> omega
  · show (if b = s1.pos then ln b - 1 else ln b) ≤ 60
    split <;> omega
  · rcases hpos with e | e
    · have h6 := hst.1
      rw [e] at hit h6
      simp only [if_pos e, if_pos e.symm]
      omega
    · simp only [if_neg (show ¬ s1.pos = a by omega), if_neg (show ¬ a = s1.pos by omega)]; omega
  · rcases hpos with e | e
    · simp only [if_pos e, if_neg (show ¬ b = s1.pos by omega)]; omega
    · have h6 := hst.1
      rw [e] at hit h6
      simp only [if_neg (show ¬ s1.pos = a by omega), if_pos e.symm]
      omega

theorem FairInv.credit {n a b : Nat} {big : Int} {sh : Nat → Int} {s : Dst} {ln : Nat → Nat} {li : Nat → Nat → Int} {x y : Int} {waits : Nat} (h : FairInv n a b big sh s ln li x y waits) (hbig : 1 ≤ big) (hs : ∀ i, i < n → 1 ≤ sh i) {i : Nat} (hi : i < n) :
    0 ≤ s.cr i ∧ s.cr i < sh i + big := by
  obtain ⟨h0, h1, h2⟩ := h.inv.2 i hi
  refine ⟨h0, ?_⟩
  have h3 := hs i hi
  by_cases hx : i = s.pos ∧ s.vis = true
  · exact h1 hx
  · rcases h2 hx with h4 | ⟨h4, h5⟩
    · omega
    · have := h.item i hi 0 h4
      have h6 : s.cr i < li i 0 := h5
      omega

/-- the bound: of plain numbers -/
theorem fair_far {sa sb ca cb x y R ga gb big M : Int} (h1 : x + ca = (R + ga) * sa) (h2 : y + cb = (R + gb) * sb) (hga : 0 ≤ ga ∧ ga ≤ 1) (hgb : 0 ≤ gb ∧ gb ≤ 1) (hca : 0 ≤ ca ∧ ca < sa + big) (hcb : 0 ≤ cb ∧ cb < sb + big)
    (hsa : 1 ≤ sa) (hsb : 1 ≤ sb) (hb : 1 ≤ big) (hM : sa ≤ M ∧ sb ≤ M) : -(2 * sa * sb + big * M) ≤ x * sb - y * sa ∧ x * sb - y * sa ≤ 2 * sa * sb + big * M := by
  have e : x * sb - y * sa = (ga - gb) * (sa * sb) - ca * sb + cb * sa := by
    have hx : x = (R + ga) * sa - ca := by omega
    have hy : y = (R + gb) * sb - cb := by omega
    rw [hx, hy]
    simp only [Int.sub_mul, Int.add_mul]
    rw [Int.mul_assoc R sa sb, Int.mul_assoc ga sa sb, Int.mul_assoc R sb sa, Int.mul_assoc gb sb sa, Int.mul_comm sb sa]
    omega
  have p0 : 0 ≤ sa * sb := Int.mul_nonneg (by omega) (by omega)
  have q1 : 0 ≤ ca * sb := Int.mul_nonneg hca.1 (by omega)
  have q2 : ca * sb ≤ (sa + big) * sb := Int.mul_le_mul_of_nonneg_right (by omega) (by omega)
  have q3 : 0 ≤ cb * sa := Int.mul_nonneg hcb.1 (by omega)
  have q4 : cb * sa ≤ (sb + big) * sa := Int.mul_le_mul_of_nonneg_right (by omega) (by omega)
  have q5 : big * sb ≤ big * M := Int.mul_le_mul_of_nonneg_left hM.2 (by omega)
  have q6 : big * sa ≤ big * M := Int.mul_le_mul_of_nonneg_left hM.1 (by omega)
  rw [Int.add_mul] at q2 q4
  rw [Int.mul_comm sb sa] at q4
  have e2 : 2 * sa * sb = sa * sb + sa * sb := by rw [Int.mul_assoc]; omega
  have g : (ga - gb) * (sa * sb) ≤ sa * sb ∧ -(sa * sb) ≤ (ga - gb) * (sa * sb) := by
    have : ga - gb = 0 ∨ ga - gb = 1 ∨ ga - gb = -1 := by omega
    rcases this with h | h | h <;> rw [h] <;> omega
  rw [e, e2]
  omega

theorem FairInv.far {n a b : Nat} {big : Int} {sh : Nat → Int} {s : Dst} {ln : Nat → Nat} {li : Nat → Nat → Int} {x y : Int} {waits : Nat} (h : FairInv n a b big sh s ln li x y waits) (ha : a < n) (hb : b < n)
    (hbig : 1 ≤ big ∧ big ≤ 100) (hs : ∀ i, i < n → 1 ≤ sh i) {M : Int} (hM : sh a ≤ M ∧ sh b ≤ M) : -(2 * sh a * sh b + big * M) ≤ x * sh b - y * sh a ∧ x * sh b - y * sh a ≤ 2 * sh a * sh b + big * M := by
  obtain ⟨R, h1, h2⟩ := h.fair
  exact fair_far h1 h2 (gr1_bd s a) (gr1_bd s b) (h.credit hbig.1 hs ha) (h.credit hbig.1 hs hb) (hs a ha) (hs b hb) hbig.1 hM

end Go.Proofs.Ythopnlnknicgbaa
