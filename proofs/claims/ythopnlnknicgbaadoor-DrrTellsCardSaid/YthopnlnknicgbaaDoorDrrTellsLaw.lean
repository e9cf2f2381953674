/- DrrTells: Drawn of the reference and Next step alike. -/
import Derived.Test.YthopnlnknicgbaaDoorDrrDrawn2
namespace Go.Proofs.YthopnlnknicgbaaDoor
open Go.RowKit

section
variable {n : Nat} {sh : Nat → Int} {ln : Nat → Nat} {hd : Nat → Int} {s a b : Dst}

theorem DReach.head (h : DReach n sh ln hd s b) : b = s ∨ (¬ dstops sh ln hd s ∧ DReach n sh ln hd (dstep n sh ln s) b) := by
  induction h with
  | refl => exact .inl rfl
  | step hr hn ih =>
    rcases ih with e | ⟨h1, h2⟩
    · subst e
      exact .inr ⟨hn, .refl⟩
    · exact .inr ⟨h1, .step h2 hn⟩

theorem DReach.onto (hb : DReach n sh ln hd s b) (sb : dstops sh ln hd b) (ha : DReach n sh ln hd s a) : DReach n sh ln hd a b := by
  induction ha with
  | refl => exact hb
  | step hr hn ih =>
    rcases ih.head with e | ⟨_, h2⟩
    · subst e
      exact absurd sb hn
    · exact h2

theorem DReach.det (ha : DReach n sh ln hd s a) (sa : dstops sh ln hd a) (hb : DReach n sh ln hd s b) (sb : dstops sh ln hd b) : a = b := by
  rcases (hb.onto sb ha).head with e | ⟨h, _⟩
  · exact e.symm
  · exact absurd sa h
end

structure TInv (n k : Nat) (sh : Nat → Int) (s : Dst) (ln : Nat → Nat) (li : Nat → Nat → Int) (wt : Nat) : Prop where
  inv : DInv n 10000 sh ln (fun i => li i 0) s
  all : ∀ j, j < n → ∀ t, t < ln j → 1 ≤ li j t ∧ li j t ≤ 10000
  sum : wt = nsum ln n
  bd : wt ≤ k

/-- the next one is drawn, or there is none -/
def NX (n : Nat) (sh : Nat → Int) (s : Dst) (ln : Nat → Nat) (li : Nat → Nat → Int) (wt : Nat) (s2 : Dst) (ln2 : Nat → Nat) (li2 : Nat → Nat → Int) (wt2 : Nat) (a z : Int) (is : Bool) : Prop :=
  (wt = 0 ∧ s2 = s ∧ ln2 = ln ∧ li2 = li ∧ wt2 = 0 ∧ a = 0 ∧ z = 0 ∧ is = false) ∨
  (0 < wt ∧ ∃ s1, DReach n sh ln (fun i => li i 0) s s1 ∧ dstops sh ln (fun i => li i 0) s1 ∧ s1.pos < n ∧ s2 = dgive sh (fun i => li i 0) s1 ∧ ln2 = (fun j => if j = s1.pos then ln j - 1 else ln j) ∧
    li2 = (fun j => if j = s1.pos then (fun k => li j (k + 1)) else li j) ∧ wt2 = wt - 1 ∧ a = (s1.pos : Int) ∧ z = li s1.pos 0 ∧ is = true)

section
variable {n k : Nat} {sh : Nat → Int} {s s2 s3 : Dst} {ln ln2 ln3 : Nat → Nat} {li li2 li3 : Nat → Nat → Int} {wt wt2 wt3 : Nat} {a z a' z' : Int} {is is' : Bool}

theorem NX.det (h : NX n sh s ln li wt s2 ln2 li2 wt2 a z is) (h' : NX n sh s ln li wt s3 ln3 li3 wt3 a' z' is') : s3 = s2 ∧ ln3 = ln2 ∧ li3 = li2 ∧ wt3 = wt2 ∧ a' = a ∧ z' = z ∧ is' = is := by
  rcases h with ⟨h0, rfl, rfl, rfl, rfl, rfl, rfl, rfl⟩ | ⟨h0, s1, hr, hst, hp, rfl, rfl, rfl, rfl, rfl, rfl, rfl⟩
  · rcases h' with ⟨_, rfl, rfl, rfl, rfl, rfl, rfl, rfl⟩ | ⟨h1, _⟩
    · exact ⟨rfl, rfl, rfl, rfl, rfl, rfl, rfl⟩
    · omega
  · rcases h' with ⟨h1, _⟩ | ⟨_, s1', hr', hst', hp', rfl, rfl, rfl, rfl, rfl, rfl, rfl⟩
    · omega
    · obtain rfl := hr.det hst hr' hst'
      exact ⟨rfl, rfl, rfl, rfl, rfl, rfl, rfl⟩

theorem TInv.hd (h : TInv n k sh s ln li wt) : ∀ j, j < n → 0 < ln j → 1 ≤ li j 0 ∧ li j 0 ≤ 10000 := fun j hj hl => h.all j hj 0 hl

theorem TInv.ln_le (h : TInv n k sh s ln li wt) : ∀ j, j < n → ln j ≤ k := fun j hj => by
  have := nsum_le ln n j hj
  have := h.sum
  have := h.bd
  omega

theorem TInv.skip (h : TInv n k sh s ln li wt) : TInv n (k + 1) sh s ln li wt := { h with bd := by have := h.bd; omega }

theorem TInv.put (h : TInv n k sh s ln li wt) {q : Nat} (hq : q < n) {x : Int} (hx : 1 ≤ x ∧ x ≤ 10000) :
    TInv n (k + 1) sh s (fun j => if j = q then ln q + 1 else ln j) (fun j => if j = q then (fun t => if t < ln q then li q t else x) else li j) (wt + 1) := by
  refine ⟨h.inv.put _ _ (fun j hj hpos => ?_), fun j hj t ht => ?_, ?_, by have := h.bd; omega⟩
  · by_cases e : j = q
    · subst e; simp [hpos]
    · simp [e, hpos]
  · by_cases e : j = q
    · subst e
      simp only [if_true] at ht ⊢
      by_cases h1 : t < ln j
      · rw [if_pos h1]; exact h.all j hj t h1
      · rw [if_neg h1]; exact hx
    · simp only [if_neg e] at ht ⊢
      exact h.all j hj t ht
  · have := nsum_upd ln q (ln q + 1) n hq
    have := h.sum
    omega

theorem TInv.next (h : TInv n k sh s ln li wt) (hs : ∀ i, i < n → 1 ≤ sh i) (hx : NX n sh s ln li wt s2 ln2 li2 wt2 a z is) : TInv n (k + 1) sh s2 ln2 li2 wt2 := by
  rcases hx with ⟨h0, rfl, rfl, rfl, rfl, rfl, rfl, rfl⟩ | ⟨h0, s1, hr, hst, hp, rfl, rfl, rfl, rfl, rfl, rfl, rfl⟩
  · subst h0; exact h.skip
  · have hi := hr.inv h.inv hs
    have hl0 := hst.1
    refine ⟨hi.give (by omega) hs h.hd hst _ _ (fun j hj => by simp [hj]), fun j hj t ht => ?_, ?_, by have := h.bd; omega⟩
    · by_cases e : j = s1.pos
      · simp only [if_pos e] at ht ⊢
        exact h.all j hj (t + 1) (by omega)
      · simp only [if_neg e] at ht ⊢
        exact h.all j hj t ht
    · have e : nsum (fun j => if j = s1.pos then ln j - 1 else ln j) n = nsum (fun j => if j = s1.pos then ln s1.pos - 1 else ln j) n := nsum_congr (fun j _ => by
        by_cases e : j = s1.pos
        · rw [if_pos e, if_pos e, e]
        · rw [if_neg e, if_neg e])
      have := nsum_upd ln s1.pos (ln s1.pos - 1) n hp
      have := h.sum
      omega
end

theorem next_nx (w : World) {B p gr n c k : Nat} {pf : Nat → Nat} {lv : Nat → Value} {sh : Nat → Int} {s : Dst} {ln : Nat → Nat} {li : Nat → Nat → Int} {wt : Nat} (h : Drr w B p gr n c pf lv sh s ln li wt) (hn : n ≤ 40)
    (hT : TInv n k sh s ln li wt) (hk : k ≤ 80) (hs : ∀ i, i < n → 1 ≤ sh i ∧ sh i ≤ 10000) :
    Calls Tryd.prog 30 #[.pointer (some ⟨p, 0, none⟩)] w fun e w' => ∃ s2 ln2 li2 wt2 a z is lv', NX n sh s ln li wt s2 ln2 li2 wt2 a z is ∧ e = .returned (.tuple #[.int .i64 a, .int .i64 z, .bool is]) ∧
      Drr w' B p gr n c pf lv' sh s2 ln2 li2 wt2 ∧ FrP (InD p gr n pf lv) w w' ∧ ∀ y, InD p gr n pf lv' y → InD p gr n pf lv y := by
  by_cases h0 : wt = 0
  · subst h0
    refine (drr_next_none w h).mono ?_
    rintro e w' ⟨rfl, rfl⟩
    exact ⟨s, ln, li, 0, 0, 0, false, lv, .inl ⟨rfl, rfl, rfl, rfl, rfl, rfl, rfl, rfl⟩, rfl, h, FrP.refl _ _, fun y hy => hy⟩
  · obtain ⟨e0, he0, hl0⟩ := nsum_pos ln n (by have := hT.sum; omega)
    have hbd := hT.bd
    refine (drr_next w h hn hT.inv hs hT.hd (fun i hi => by have := hT.ln_le i hi; omega) (by omega) (by omega) e0 he0 hl0).mono ?_
    rintro e w' ⟨s1, lv', hr, hst, hp, rfl, hD, hf, hi⟩
    exact ⟨_, _, _, _, _, _, _, lv', .inr ⟨by omega, s1, hr, hst, hp, rfl, rfl, rfl, rfl, rfl, rfl, rfl⟩, rfl, hD, hf, hi⟩

theorem drawn_nx (w : World) (D : Nat → Prop) (hD : ∀ y, D y → y < w.heap.size) (sa ca la : Option Addr) (sc cc lc n k : Nat) (sh : Nat → Int) (s : Dst) (ln : Nat → Nat) (li : Nat → Nat → Int) (wt : Nat)
    (hsr : RdF w (.slice sa n sc) n (fun j => .int .i64 (sh j))) (hR : RL w D (.slice ca n cc) (.slice la n lc) n s ln li) (hn : n ≤ 40) (hn0 : 0 < n)
    (hT : TInv n k sh s ln li wt) (hk : k ≤ 80) (hs : ∀ i, i < n → 1 ≤ sh i ∧ sh i ≤ 10000) :
    Calls Tryd.prog 29 #[.agg #[.slice sa n sc, .slice ca n cc, .slice la n lc, .int .i64 s.pos, .bool s.vis]] w fun e w' => ∃ s2 ln2 li2 wt2 a z is ca2 cc2 la2 lc2, NX n sh s ln li wt s2 ln2 li2 wt2 a z is ∧
      e = .returned (.tuple #[.agg #[.slice sa n sc, .slice ca2 n cc2, .slice la2 n lc2, .int .i64 s2.pos, .bool s2.vis], .int .i64 a, .int .i64 z, .bool is]) ∧ RL w' D (.slice ca2 n cc2) (.slice la2 n lc2) n s2 ln2 li2 ∧ Fr [] w w' := by
  have hbd := hT.bd
  have hwt := hT.sum
  by_cases h0 : wt = 0
  · subst h0
    obtain ⟨_, V, hrow, hV⟩ := id hR
    refine (drawn_none w sa ca la sc n cc 0 lc s.pos s.vis n n V ln hrow.1 (fun i hi => (hV i hi).1.slice) hwt.symm hn).mono ?_
    rintro e w' ⟨rfl, hf⟩
    exact ⟨s, ln, li, 0, 0, 0, false, ca, cc, la, lc, .inl ⟨rfl, rfl, rfl, rfl, rfl, rfl, rfl, rfl⟩, rfl, hR.fr hf, hf⟩
  · obtain ⟨e0, he0, hl0⟩ := nsum_pos ln n (by omega)
    refine (drawn_any w D hD sa ca la sc cc lc n sh s ln li hsr hR hn hn0 hT.inv hs hT.hd (fun i hi => by have := hT.ln_le i hi; omega) (by omega) (by omega) e0 he0 hl0).mono ?_
    rintro e w' ⟨s1, ca2, cc2, la2, lc2, hr, hst, hp, rfl, hR2, hf⟩
    exact ⟨_, _, _, _, _, _, _, ca2, cc2, la2, lc2, .inr ⟨by omega, s1, hr, hst, hp, rfl, rfl, rfl, rfl, rfl, rfl, rfl⟩, rfl, hR2, hf⟩

/-- a block of Lines is none of the flows' -/
theorem Drr.notD {w : World} {B p gr n c : Nat} {pf : Nat → Nat} {lv : Nat → Value} {sh : Nat → Int} {s : Dst} {ln : Nat → Nat} {li : Nat → Nat → Int} {wt : Nat} (h : Drr w B p gr n c pf lv sh s ln li wt) {x : Nat} {cs : Array Value}
    (hx : w.heap[x]? = some (.cells cs 50 (0, 0))) : ¬ InD p gr n pf lv x := by
  rintro (rfl | rfl | ⟨i, hi, rfl | h1⟩)
  · exact blk_ne h.blk hx (by decide) rfl
  · exact h.row.ne_blk hx (by decide) rfl
  · exact blk_ne (h.flow i hi) hx (by decide) rfl
  · obtain ⟨c', _, _, hr⟩ := (h.line i hi).own h1
    exact hr.ne_blk hx (by decide) rfl

end Go.Proofs.YthopnlnknicgbaaDoor
